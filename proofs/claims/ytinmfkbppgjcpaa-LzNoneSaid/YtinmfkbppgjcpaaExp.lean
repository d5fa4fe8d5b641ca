/- The contract of lz.Expand. -/
import Derived.Test.YtinmfkbppgjcpaaKnw
set_option linter.unusedVariables false
namespace Go.Proofs.Ytinmfkbppgjcpaa.Lz
open Go.RowKit LzP

/-- bytes as cells -/
def u8s (l : List Int) : List Value := l.map (Value.int .u8)
theorem u8s_length (l : List Int) : (u8s l).length = l.length := by simp [u8s]
theorem u8s_append (l r : List Int) : u8s (l ++ r) = u8s l ++ u8s r := by simp [u8s]

/-- a text handed back, or an error -/
def GotB (w : World) (R : List Int × Int) (e : Ending) (w' : World) : Prop :=
  ∃ sv, e = .returned (.tuple #[sv, .int .i64 R.2]) ∧ w'.ownsRow w.heap.size 5 1 sv R.1.length (u8s R.1) ∧ Below w.heap.size w w'

theorem GotB.err {w w' : World} {R : List Int × Int} {code : Int} (h : R = ([], code)) (hb : Below w.heap.size w w') : GotB w R (.returned (.tuple #[.slice none 0 0, .int .i64 code])) w' := by
  subst h
  exact ⟨_, rfl, World.ownsRow_nil _ _ _ _, hb⟩

theorem own_shape {w : World} {base : Nat} {e : TypeId} {size m : Nat} {v : Value} {xs : List Value} (h : w.ownsRow base e size v m xs) : ∃ va vc, v = .slice va m vc := by
  rcases h.2 with ⟨rfl, rfl⟩ | ⟨g, c, cur, rfl, _⟩
  · exact ⟨_, _, rfl⟩
  · exact ⟨_, _, rfl⟩

theorem u8_one (x : Int) : ∀ u ∈ [Value.int .u8 x], u.oneCell' = true := by
  intro u hu; simp at hu; subst hu; rfl

set_option maxHeartbeats 4000000 in
set_option maxRecDepth 100000 in
theorem expand_any (a : Option Addr) (n cap : Nat) (l : List (Int × Int × Int)) (most : Nat) (w : World) (hp : PcsAt w a l) (hl : l.length = n) (hn : n ≤ maxLen) (hm : most ≤ 1048576) :
    Calls Try.prog 25 #[.slice a n cap, .int .i64 most] w (GotB w (ex most l [])) := by
  obtain ⟨R, hR⟩ : ∃ R, R = ex most l [] := ⟨_, rfl⟩
  rw [← hR]
  have HR := Lib.hid hR
  have HP := Lib.hid hp
  have HL := Lib.hid hl
  obtain ⟨i0, hi, hz0, hz1, hz2⟩ := info_parts info5
  have d1 : decide ((most : Int) < 0) = false := by simp
  have d2 : decide (1048576 < (most : Int)) = false := by simp; omega
  unfold maxLen at hn
  clear hR hp hl
  go_enter Try.func25, Try.ntmps25
  go_wp2_with fail
  go_loopw [6, 17] (fun v i wr => ∃ (k : Nat) (out : List Int), k ≤ n ∧ i = .int .i64 k ∧ out.length ≤ most ∧ wr.ownsRow w.heap.size 5 1 v out.length (u8s out) ∧ Hid (R = ex most (l.drop k) out) ∧ Below w.heap.size w wr) (fun _ i _ => n - (intOf i).toNat)
  case atStart =>
    exact ⟨0, [], Nat.zero_le _, rfl, Nat.zero_le _, World.ownsRow_nil _ _ _ _, Lib.hid HR.out, Below.refl _ _⟩
  case round =>
    obtain ⟨k, out, hk, rfl, hol, hown, hR, hbel⟩ := hrel
    clear HR
    obtain ⟨va, vc, rfl⟩ := own_shape hown
    have HO := Lib.hid hown
    have HB := Lib.hid hbel
    by_cases hlt : k < n
    · obtain ⟨⟨p1, p2, p3⟩, hpk⟩ : ∃ p, l[k]? = some p := ⟨l[k]'(by have := HL.out; omega), List.getElem?_eq_getElem _⟩
      have hdrop : l.drop k = (p1, p2, p3) :: l.drop (k + 1) := by
        have hkl := HL.out
        rw [List.drop_eq_getElem_cons (by omega)]
        have := List.getElem?_eq_some_iff.1 hpk
        rw [this.2]
      have hst := hR.out
      rw [hdrop] at hst
      unfold ex at hst
      dsimp only at hst
      obtain ⟨b, off, rfl, hbl, c0, c1, c2⟩ := (HP.out.below hbel) k _ hpk
      dsimp only at c0 c1 c2
      have HS := Lib.hid hst
      have hhs := hbel.size
      clear hR hown hbel hdrop hst hpk
      by_cases hz1' : p1 = 0
      · by_cases hz2' : p2 = 0
        · subst hz1'; subst hz2'
          by_cases hfull : out.length = most
          · have HE := Lib.hid (show R = ([], 6) by rw [HS.out, if_pos ⟨rfl, rfl⟩, if_pos hfull])
            have e1 : (out.length == most) = true := by simp; omega
            clear HS
            go_wp2
            go_ret2
            exact GotB.err HE.out ((HB.out.alloc hhs _))
          · have HE := Lib.hid (show R = ex most (l.drop (k + 1)) (out ++ [p3]) by rw [HS.out, if_pos ⟨rfl, rfl⟩, if_neg hfull])
            have e1 : (out.length == most) = false := by simp; omega
            clear HS
            go_wp2_with (at_builtin; refine wpList_append_own_at _ rfl (.tmp 33) (.tmp 36) 22 rfl w.heap.size 5 i0 (.int .u8 0) 1 1 Try.underlying22 hi hz0 hz1 hz2 rfl (by decide) _ _ _ rfl ((HO.out.alloc _).alloc _) ⟨wr.heap.size + 1, 0, none⟩ 1 1 [.int .u8 p3] rfl rfl ?c1 (u8_one p3) ?c3 ?c4 ?c5 ?_)
            case c1 =>
              have := cell_one_new (wr.alloc (.cells #[.int .i64 0, .int .i64 0, .int .u8 p3] 37)) (.int .u8 p3) 5
              rwa [World.size_alloc] at this
            case c3 => unfold maxLen; omega
            case c4 => omega
            case c5 => simp; omega
            intro v' w2 hown2 hgrow _ _
            have HO2 := Lib.hid hown2
            have HB2 := Lib.hid (((HB.out.alloc hhs _).alloc (by simp; omega) _).grown hgrow (by simp; omega) (fun b hb => (HO.out.lt _ hb).1))
            clear hown2 hgrow HO HB
            go_wp2
            go_roundw
            case rel =>
              refine ⟨k + 1, out ++ [p3], by omega, by go_num, by simp; omega, ?_, Lib.hid HE.out, HB2.out⟩
              rw [List.length_append, u8s_append]
              exact HO2.out
            case measure => simp [intOf]; omega
        · subst hz1'
          have HE := Lib.hid (show R = ([], 31) by rw [HS.out, if_neg (fun q => hz2' q.2), if_neg (fun q => by have := q.1; omega)])
          have e2 : (p2 == 0) = false := by simp; exact hz2'
          clear HS
          go_wp2
          go_ret2
          exact GotB.err HE.out ((HB.out.alloc hhs _))
      · have e1 : (p1 == 0) = false := by simp; exact hz1'
        by_cases hok : okp out.length (p1, p2, p3)
        · have hok' := hok
          unfold okp at hok'
          dsimp only at hok'
          obtain ⟨o1, o2, o3, o4, o5, o6⟩ := hok'
          subst o6
          by_cases hfit : (most : Int) - out.length < p1
          · have HE := Lib.hid (show R = ([], 6) by rw [HS.out, if_neg (fun q => hz1' q.1), if_pos hok, if_pos hfit])
            clear HS hok
            go_wp2
            go_ret2
            exact GotB.err HE.out ((HB.out.alloc hhs _))
          · obtain ⟨P, rfl⟩ : ∃ P : Nat, p1 = P := ⟨p1.toNat, by omega⟩
            obtain ⟨d, rfl⟩ : ∃ d : Nat, p2 = d := ⟨p2.toNat, by omega⟩
            have HE := Lib.hid (show R = ex most (l.drop (k + 1)) (cp d P out) by rw [HS.out, if_neg (fun q => hz1' q.1), if_pos hok, if_neg hfit]; simp)
            have hP : out.length + P ≤ most := by omega
            have hd1 : 1 ≤ d := by omega
            have hd2 : d ≤ out.length := by omega
            clear HS hok hz1' hfit
            have hneb : (Value.slice va out.length vc).ownBlock ≠ some wr.heap.size := fun q => by have := (HO.out.lt _ q).2; omega
            have HO1 := Lib.hid (HO.out.alloc (.cells #[.int .i64 P, .int .i64 d, .int .u8 0] 37))
            have HB1 := Lib.hid (HB.out.alloc hhs (.cells #[.int .i64 P, .int .i64 d, .int .u8 0] 37))
            have HK1 := Lib.hid (heap_alloc_new wr (.cells #[.int .i64 P, .int .i64 d, .int .u8 0] 37))
            have hwl : wr.heap.size < (wr.alloc (.cells #[.int .i64 P, .int .i64 d, .int .u8 0] 37)).heap.size := by simp
            have HWL := Lib.hid hwl
            clear HO HB hwl
            obtain ⟨wo, rfl⟩ : ∃ wo : World, wo = wr := ⟨_, rfl⟩
            go_wp2_with fail
            go_loopw [6, 73] (fun v t wi => ∃ (j : Nat) (ob : List Int), j ≤ P ∧ t = .int .i64 j ∧ ob.length = out.length + j ∧ wi.ownsRow w.heap.size 5 1 v ob.length (u8s ob) ∧ Hid (cp d (P - j) ob = cp d P out) ∧ Below w.heap.size w wi ∧
                wi.heap[wo.heap.size]? = some (.cells #[.int .i64 P, .int .i64 d, .int .u8 0] 37 (0, 0)) ∧ wo.heap.size < wi.heap.size ∧ v.ownBlock ≠ some wo.heap.size) (fun _ t _ => P - (intOf t).toNat)
            case atStart => exact ⟨0, out, Nat.zero_le _, rfl, rfl, HO1.out, Lib.hid rfl, HB1.out, HK1.out, HWL.out, hneb⟩
            case round =>
              obtain ⟨j, ob, hj, rfl, hobl, hown, hcp, hbel, hkb, hwl, hne⟩ := hrel
              obtain ⟨vb, vd, rfl⟩ := own_shape hown
              clear HO1 HB1 HK1 HWL hneb
              have HOW := Lib.hid hown
              have HBW := Lib.hid hbel
              have HKW := Lib.hid hkb
              have hhw := hbel.size
              by_cases hjp : j < P
              · obtain ⟨gb, cb, hv, hc1, hc2, hc3, hc4⟩ := own_some hown (by omega)
                cases hv
                obtain ⟨x, hx⟩ : ∃ x, x = ob.length - d := ⟨_, rfl⟩
                have hxl : x < ob.length := by omega
                have hcx := own_cell hown (j := x) (u := .int .u8 (ob.getD x 0)) (by simp [u8s, List.getD, List.getElem?_eq_getElem hxl])
                have hw : IntKind.i64.wrap ((ob.length : Int) - (d : Int)) = (x : Int) := by rw [IntKind.wrap_i64]; omega
                have hsub : (ob.length : Int) - (d : Int) = (x : Int) := by omega
                obtain ⟨-, k1, -, -, -⟩ := cells3 hkb
                have hstep : cp d (P - j) ob = cp d (P - (j + 1)) (ob ++ [ob.getD x 0]) := by
                  rw [show P - j = (P - (j + 1)) + 1 by omega, hx]; rfl
                have HST := Lib.hid (hstep.symm.trans hcp.out)
                generalize ob.getD x 0 = y at hcx HST
                have hobm : ob.length ≤ 1048576 := by omega
                have HOBL := Lib.hid hobl
                clear hstep hcp hown hbel hkb hx hobl
                go_wp2_with (at_builtin; refine wpList_append_own_at _ rfl (.tmp 75) (.tmp 84) 22 rfl w.heap.size 5 i0 (.int .u8 0) 1 1 Try.underlying22 hi hz0 hz1 hz2 rfl (by decide) _ _ _ rfl (HOW.out.alloc _) ⟨wr.heap.size, 0, none⟩ 1 1 [.int .u8 y] rfl rfl ?c1 (u8_one y) ?c3 ?c4 ?c5 ?_)
                case c1 => exact cell_one_new _ _ _
                case c3 => unfold maxLen; omega
                case c4 => omega
                case c5 => simp; omega
                intro v' w2 hown2 hgrow _ hat
                have hk2 : w2.heap[wo.heap.size]? = some (.cells #[.int .i64 P, .int .i64 d, .int .u8 0] 37 (0, 0)) := by
                  rw [hgrow.block wo.heap.size (by simp; omega) (fun q => hne q.symm), Below.heap_alloc _ _ _ hwl]; exact HKW.out
                have hs2 : wo.heap.size < w2.heap.size := by have := hgrow.size; simp at this; omega
                have hne2 : v'.ownBlock ≠ some wo.heap.size := by
                  rcases hat with q | q
                  · rw [q]; exact hne
                  · rw [q]; intro e; simp at e; omega
                have HR2 := Lib.hid (And.intro hown2 (And.intro ((HBW.out.alloc hhw _).grown hgrow (by simp; omega) (fun b hb => (HOW.out.lt _ hb).1)) (And.intro hk2 (And.intro hs2 hne2))))
                clear hown2 hgrow hat hk2 hs2 hne2 HOW HBW HKW
                go_wp2
                go_roundw
                case rel =>
                  obtain ⟨r1, r2, r3, r4, r5⟩ := HR2.out
                  refine ⟨j + 1, ob ++ [y], by omega, by go_num, by have := HOBL.out; simp; omega, ?_, Lib.hid HST.out, r2, r3, r4, r5⟩
                  rw [List.length_append, u8s_append]
                  exact r1
                case measure => simp [intOf]; omega
              · obtain rfl : j = P := by omega
                have HE2 := Lib.hid (show R = ex most (l.drop (k + 1)) ob by rw [HE.out, ← hcp.out, Nat.sub_self]; rfl)
                have hobm : ob.length ≤ most := by omega
                clear hcp hown hbel hkb hobl
                go_wp2
                go_roundw
                case rel => exact ⟨k + 1, ob, by omega, by go_num, by omega, HOW.out, Lib.hid HE2.out, HBW.out⟩
                case measure => simp [intOf]; omega
        · have HE := Lib.hid (show R = ([], 31) by rw [HS.out, if_neg (fun q => hz1' q.1), if_neg hok])
          have hok' : p1 < 3 ∨ 258 < p1 ∨ p2 < 1 ∨ 32768 < p2 ∨ (out.length : Int) < p2 ∨ p3 ≠ 0 := by
            unfold okp at hok; dsimp only at hok; omega
          clear HS hok
          by_cases b1 : p1 < 3
          · clear hok'
            go_wp2
            go_ret2
            exact GotB.err HE.out ((HB.out.alloc hhs _))
          · by_cases b2 : 258 < p1
            · clear hok'
              go_wp2
              go_ret2
              exact GotB.err HE.out ((HB.out.alloc hhs _))
            · by_cases b3 : p2 < 1
              · clear hok'
                go_wp2
                go_ret2
                exact GotB.err HE.out ((HB.out.alloc hhs _))
              · by_cases b4 : min 32768 (out.length : Int) < p2
                · clear hok'
                  go_wp2
                  go_ret2
                  exact GotB.err HE.out ((HB.out.alloc hhs _))
                · have b5 : (p3 == 0) = false := by simp; omega
                  clear hok'
                  go_wp2
                  go_ret2
                  exact GotB.err HE.out ((HB.out.alloc hhs _))
    · obtain rfl : k = n := by omega
      have hR2 := hR.out
      rw [show l.drop k = [] from List.drop_eq_nil_of_le (by have := HL.out; omega)] at hR2
      have HE := Lib.hid (show R = (out, 0) by rw [hR2]; rfl)
      clear hR hR2 hown hbel
      go_wp2
      go_ret2
      have hE := HE.out
      subst hE
      exact ⟨_, rfl, HO.out, HB.out⟩
end Go.Proofs.Ytinmfkbppgjcpaa.Lz
