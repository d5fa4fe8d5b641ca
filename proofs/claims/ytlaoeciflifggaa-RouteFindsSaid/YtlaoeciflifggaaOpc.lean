/- A configuration that came in: how it is opened. -/
import Derived.Test.YtlaoeciflifggaaOpn
import Derived.Test.YtlaoeciflifggaaCfg
set_option linter.unusedVariables false
namespace Go.Proofs.Ytlaoeciflifggaa.Rt
open Go.ChangeShapes Go.WideShapes Go.Deep

section
variable {H : Type} {enc : TypeId × Value → H} {w : World} {base : Nat} {held : Bool}

theorem rd_peer {n : Nat} {cs : List Value} {D : DataW H} {Pl : List MemPlace} (h : DataW.trod enc Try.prog w base (fun _ => true) held n 68 cs = some (D, Pl)) : ∃ p : Int × Int, cs = [.int .i64 p.1, .int .i64 p.2] := by
  have hC : Try.prog.cellsOf 68 = 2 := by kernel_rfl
  obtain ⟨ys, n', hn', hy, hlen, hyl, hfl⟩ := DataW.trod_struct Try.underlying68 h
  rw [hC] at hlen
  have h0 : DataW.trod enc Try.prog w base (fun _ => true) held n' 3 ((cs.drop 0).take (Try.prog.cellsOf 3)) = ys[0]? := hfl 0 _ rfl
  have h1 : DataW.trod enc Try.prog w base (fun _ => true) held n' 3 ((cs.drop 1).take (Try.prog.cellsOf 3)) = ys[1]? := hfl 1 _ rfl
  rw [cells3'] at h0
  rw [cells3'] at h1
  match cs, hlen with
  | [v0, v1], _ =>
    have hyl' : ys.length = 2 := hyl
    match ys, hyl' with
    | [y0, y1], _ =>
      obtain ⟨z0, e0, _⟩ := DataW.trod_int Try.underlying3 h0
      obtain ⟨z1, e1, _⟩ := DataW.trod_int Try.underlying3 h1
      simp at e0 e1
      subst e0; subst e1
      exact ⟨(z0, z1), rfl⟩

theorem rd_peers {n : Nat} {c : Value} {x : DataW H × List MemPlace} (h : DataW.trod enc Try.prog w base (fun _ => true) held n 61 [c] = some x) (hl : Light 61 x.1) :
    ∃ (L : List (Int × Int)) (a : Option Addr) (cap : Nat), c = .slice a L.length cap ∧ PeersAt w a L ∧ L.length * 16 ≤ reachBytes := by
  obtain ⟨L, a, cap, h1, h2, h3, h4, h5, h6, h7⟩ := open_list (α := Int × Int) Try.underlying61 2 (by kernel_rfl) (by omega) (fun v z => v = [.int .i64 z.1, .int .i64 z.2]) (fun _ => True) (fun v z e => by rw [e]; rfl)
    (fun n cs D Pl h hl => by obtain ⟨p, h1⟩ := rd_peer h; exact ⟨p, h1, trivial⟩) h hl
  rw [bytes68] at h5
  exact ⟨L, a, cap, h1, elems_of_structs h2, h5⟩

theorem rd_ups {n : Nat} {cs : List Value} {D : DataW H} {Pl : List MemPlace} (h : DataW.trod enc Try.prog w base (fun _ => true) held n 63 cs = some (D, Pl)) (hl : Light 63 D) :
    ∃ u : Ups, UpsV w cs u ∧ UpsOk u := by
  have hC : Try.prog.cellsOf 63 = 4 := by kernel_rfl
  have c61 : Try.prog.cellsOf 61 = 1 := by kernel_rfl
  obtain ⟨ys, n', hn', hy, hlen, hyl, hfl⟩ := DataW.trod_struct Try.underlying63 h
  rw [hC] at hlen
  have h0 : DataW.trod enc Try.prog w base (fun _ => true) held n' 9 ((cs.drop 0).take (Try.prog.cellsOf 9)) = ys[0]? := hfl 0 _ rfl
  have h1 : DataW.trod enc Try.prog w base (fun _ => true) held n' 61 ((cs.drop 1).take (Try.prog.cellsOf 61)) = ys[1]? := hfl 1 _ rfl
  have h2 : DataW.trod enc Try.prog w base (fun _ => true) held n' 3 ((cs.drop 2).take (Try.prog.cellsOf 3)) = ys[2]? := hfl 2 _ rfl
  have h3 : DataW.trod enc Try.prog w base (fun _ => true) held n' 3 ((cs.drop 3).take (Try.prog.cellsOf 3)) = ys[3]? := hfl 3 _ rfl
  rw [cells9] at h0
  rw [c61] at h1
  rw [cells3'] at h2
  rw [cells3'] at h3
  match cs, hlen with
  | [v0, v1, v2, v3], _ =>
    have hyl' : ys.length = 4 := hyl
    match ys, hyl' with
    | [y0, y1, y2, y3], _ =>
      have hD : D = .agg [y0.1, y1.1, y2.1, y3.1] := congrArg Prod.fst hy
      subst hD
      obtain ⟨nm, e0, _⟩ := DataW.trod_string Try.underlying9 h0
      obtain ⟨P, pa, pc, e1, hp, hp16⟩ := rd_peers h1 (light_field Try.underlying63 hl (j := 1) rfl rfl)
      obtain ⟨z2, e2, _⟩ := DataW.trod_int Try.underlying3 h2
      obtain ⟨z3, e3, _⟩ := DataW.trod_int Try.underlying3 h3
      simp at e0 e2 e3
      subst e0; subst e1; subst e2; subst e3
      exact ⟨⟨nm, P, z2, z3⟩, ⟨pa, pc, rfl, hp⟩, ⟨hp16⟩⟩

/-- a configuration that is an argument, opened -/
theorem open_cfg {v : Value} {d : DataW H} {p : List MemPlace} (hv : ∃ cs, v = .agg cs ∧ cs.size = Try.prog.cellsOf 25) (h : DataW.Trod enc Try.prog w base (fun _ => true) held 25 v d p) (hl : Light 25 d) :
    ∃ (k0 k1 k2 k3 : Int) (U : List Ups) (L : List Srv) (ua : Option Addr) (uc : Nat) (sa : Option Addr) (sc : Nat), v = .agg #[.int .i64 k0, .int .i64 k1, .int .i64 k2, .int .i64 k3, .slice ua U.length uc, .slice sa L.length sc] ∧ CfgArg w ua sa U L := by
  obtain ⟨cs, rfl, _⟩ := hv
  obtain ⟨fuel, hf⟩ := h
  have hf' : DataW.trod enc Try.prog w base (fun _ => true) held fuel 25 cs.toList = some (d, p) := hf
  have hC : Try.prog.cellsOf 25 = 6 := by kernel_rfl
  have c22 : Try.prog.cellsOf 22 = 1 := by kernel_rfl
  have c23 : Try.prog.cellsOf 23 = 1 := by kernel_rfl
  obtain ⟨ys, n', hn', hy, hlen, hyl, hfl⟩ := DataW.trod_struct Try.underlying25 hf'
  rw [hC] at hlen
  have h0 : DataW.trod enc Try.prog w base (fun _ => true) held n' 3 ((cs.toList.drop 0).take (Try.prog.cellsOf 3)) = ys[0]? := hfl 0 _ rfl
  have h1 : DataW.trod enc Try.prog w base (fun _ => true) held n' 3 ((cs.toList.drop 1).take (Try.prog.cellsOf 3)) = ys[1]? := hfl 1 _ rfl
  have h2 : DataW.trod enc Try.prog w base (fun _ => true) held n' 3 ((cs.toList.drop 2).take (Try.prog.cellsOf 3)) = ys[2]? := hfl 2 _ rfl
  have h3 : DataW.trod enc Try.prog w base (fun _ => true) held n' 3 ((cs.toList.drop 3).take (Try.prog.cellsOf 3)) = ys[3]? := hfl 3 _ rfl
  have h4 : DataW.trod enc Try.prog w base (fun _ => true) held n' 22 ((cs.toList.drop 4).take (Try.prog.cellsOf 22)) = ys[4]? := hfl 4 _ rfl
  have h5 : DataW.trod enc Try.prog w base (fun _ => true) held n' 23 ((cs.toList.drop 5).take (Try.prog.cellsOf 23)) = ys[5]? := hfl 5 _ rfl
  rw [cells3'] at h0
  rw [cells3'] at h1
  rw [cells3'] at h2
  rw [cells3'] at h3
  rw [c22] at h4
  rw [c23] at h5
  generalize hcl : cs.toList = l at hlen h0 h1 h2 h3 h4 h5
  match l, hlen with
  | [v0, v1, v2, v3, v4, v5], _ =>
    have hyl' : ys.length = 6 := hyl
    match ys, hyl' with
    | [y0, y1, y2, y3, y4, y5], _ =>
      have hD : d = .agg [y0.1, y1.1, y2.1, y3.1, y4.1, y5.1] := congrArg Prod.fst hy
      subst hD
      obtain ⟨z0, e0, _⟩ := DataW.trod_int Try.underlying3 h0
      obtain ⟨z1, e1, _⟩ := DataW.trod_int Try.underlying3 h1
      obtain ⟨z2, e2, _⟩ := DataW.trod_int Try.underlying3 h2
      obtain ⟨z3, e3, _⟩ := DataW.trod_int Try.underlying3 h3
      simp at e0 e1 e2 e3
      subst e0; subst e1; subst e2; subst e3
      obtain ⟨U, ua, uc, e4, hu1, hu2, _, hu4, _⟩ := open_list (α := Ups) Try.underlying22 4 (by kernel_rfl) (by omega) (UpsV w) UpsOk (fun v z e => by obtain ⟨_, _, rfl, _⟩ := e; rfl)
        (fun n cs D Pl h hl => rd_ups h hl) h4 (light_field Try.underlying25 hl (j := 4) rfl rfl)
      obtain ⟨L, sa, sc, e5, hs1, hs2, _, hs4, _⟩ := open_list (α := Srv) Try.underlying23 3 (by kernel_rfl) (by omega) (SrvV w) (fun s => SrvOk s ∧ SrvFit s) (fun v z e => by obtain ⟨_, _, _, _, rfl, _⟩ := e; rfl)
        (fun n cs D Pl h hl => rd_srv h hl) h5 (light_field Try.underlying25 hl (j := 5) rfl rfl)
      subst e4; subst e5
      rw [bytes63] at hu4
      rw [bytes50] at hs4
      refine ⟨z0, z1, z2, z3, U, L, ua, uc, sa, sc, congrArg Value.agg (Array.toList_inj.1 hcl), ⟨hu1, hs1, hu4, hs4, hu2, fun s hs => (hs2 s hs).1, fun s hs => (hs2 s hs).2⟩⟩
end
end Go.Proofs.Ytlaoeciflifggaa.Rt
