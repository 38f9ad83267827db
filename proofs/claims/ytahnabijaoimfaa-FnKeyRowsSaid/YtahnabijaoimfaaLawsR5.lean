/- The walks of the laws on tables of changes. -/
import Derived.Test.YtahnabijaoimfaaLawsR3
import Derived.Test.YtahnabijaoimfaaSlices
namespace Go.Proofs.Ytahnabijaoimfaa
open Go.RowKit

theorem lens16 {t : List (List Int)} (h : rowsOk t) : ∀ j, j < t.length → 1 ≤ (t[j]?.getD []).length ∧ (t[j]?.getD []).length ≤ 1000 := fun j hj => by
  have := (h.1 j hj).1
  omega
theorem sum_set1 (r : List Int) (j : Nat) (hj : j < r.length) : (r.set j (r[j]?.getD 0 + 1)).sum = r.sum + 1 := by
  induction r generalizing j with
  | nil => simp at hj
  | cons a r ih =>
    cases j with
    | zero => simp; omega
    | succ j =>
      simp at hj
      have := ih j hj
      simp at this ⊢
      omega
/-- with one number greater by one the rows are no table of changes -/
theorem rowsOk_up {t : List (List Int)} (h : rowsOk t) {i j : Nat} (hi : i < t.length) (hj : j < 16) : ¬ rowsOk (t.set i ((t[i]?.getD []).set j ((t[i]?.getD [])[j]?.getD 0 + 1))) := by
  intro h2
  have a1 := (h.1 i hi).2.1
  have a3 := (h.1 i hi).1
  have a2 := (h2.1 i (by simpa using hi)).2.1
  rw [getD_set hi, if_pos rfl, sum_set1 _ _ (by omega)] at a2
  omega
theorem lensT_set {t : List (List Int)} (h : lensT t) {i : Nat} {r : List Int} (hr : r.length ≤ 1000) : lensT (t.set i r) :=
  ⟨by rw [List.length_set]; exact h.1, fun x hx => by
    rcases List.mem_or_eq_of_mem_set hx with h1 | rfl
    · exact h.2 x h1
    · omega⟩

set_option maxHeartbeats 1000000 in
theorem wFnKeyRows (a : Option Addr) (len cap : Nat) (z : List Int) (a1 : Option Addr) (len1 cap1 : Nat) (z1 : List Int) (w : World) (h : IsRow .u8 w a len cap z) (_ : IsRow .u8 w a1 len1 cap1 z1) :
    Calls Try.prog 5 #[.slice a len cap, .slice a1 len1 cap1] w fun e w' => e = .returned (.bool true) ∧ Below w.heap.size w w' := by
  have H := Lib.hid h; clear h
  by_cases hl : 1048576 < len
  · go_enter Try.func5, Try.ntmps5
    go_wp2_with fail
    go_ret
    exact ⟨rfl, Below.refl _ _⟩
  by_cases hl1 : 1048576 < len1
  · have d1 : decide ((1048576 : Int) < (len1 : Int)) = true := by simp; omega
    go_enter Try.func5, Try.ntmps5
    go_wp2_with fail
    go_ret
    exact ⟨rfl, Below.refl _ _⟩
  have d1 : decide ((1048576 : Int) < (len1 : Int)) = false := by simp; omega
  go_enter Try.func5, Try.ntmps5
  go_wp2_with fail
  refine (drawKeyRows _ _ _ _ _ H.out).mono ?_
  rintro e w1 ⟨v, t, us, rfl, ho, htl, hlens, hb⟩
  have HI := Lib.hid ho.ints
  have HO := Lib.hid ho
  have HM := Lib.hid (lensT_of htl hlens.out)
  obtain ⟨g, cp, rfl, hgb, hgs, hcp1, hcp2⟩ := ho.form
  clear ho
  by_cases hk0 : rowsOk t
  · have HK := Lib.hid hk0
    have ht1 : 1 ≤ t.length := hk0.2.1
    obtain ⟨k, hkl, hke⟩ := mod_nat len1 t.length ht1
    have hke2 : (len1 : Int).tmod (t.length : Int) = (k : Int) := by rw [Int.tmod_eq_emod_of_nonneg (by omega)]; exact hke
    obtain ⟨m, hm, hme⟩ := mod_nat len1 16 (by omega)
    have hme2 : (len1 : Int).tmod 16 = (m : Int) := by rw [Int.tmod_eq_emod_of_nonneg (by omega)]; exact hme
    have HKT := Lib.hid (rowsOk_take hk0 (1 + k) (by omega) (by omega))
    have HNO := Lib.hid (rowsOk_up hk0 hkl hm)
    have hr16 := (hk0.1 k hkl).1
    have hel := (hk0.1 k hkl).2.2 ((t[k]?.getD [])[m]?.getD 0) (by rw [List.getElem?_eq_getElem (show m < (t[k]?.getD []).length by omega)]; exact List.getElem_mem _)
    clear hk0
    go_wp2_with fail
    with_reducible refine (iKeyRows_t _ _ _ t HI.out HM.out HK.out).mono ?_
    rintro e w' ⟨rfl, rfl⟩
    go_wp2_with fail
    with_reducible refine (sKeyRows_t _ _ _ t HI.out HM.out HK.out).mono ?_
    rintro e w' ⟨rfl, rfl⟩
    go_wp2_with fail
    with_reducible refine (lCopyRows _ _ _ t HI.out (by omega) (lens16 HK.out)).mono ?_
    rintro e w2 ⟨v2, us2, rfl, o2, b2⟩
    have HO2 := Lib.hid o2
    obtain ⟨g2, cp2, rfl, hgb2, hgs2, hcp21, hcp22⟩ := o2.form
    obtain ⟨gi, ci, hu, hc, hgi1, hgi2, hgi3, hci1, hci2, hoi⟩ := o2.row (i := k) hkl
    obtain ⟨hcm, hfm⟩ := o2.at hkl hu (j := m) (by omega)
    have HS := Lib.hid (o2.set hkl hu m ((t[k]?.getD [])[m]?.getD 0 + 1))
    have HLS : Hid (lensT (t.set k ((t[k]?.getD []).set m ((t[k]?.getD [])[m]?.getD 0 + 1)))) := lensT_set HM.out (by rw [List.length_set]; omega)
    obtain ⟨el1, el2, _⟩ := hel
    rw [hr16] at hc
    generalize hzz : (t[k]?.getD [])[m]?.getD 0 = zz at *
    clear hzz hu hoi o2 hr16
    have hki : (k : Int) < (t.length : Int) := by omega
    have hmi : (m : Int) < 16 := by omega
    have e1 := IntWalk.i64_in ((1 : Int) + (k : Int) - 1) (by omega)
    have e2 : (1 : Int) + (k : Int) - 1 = (k : Int) := by omega
    have e3 := IntWalk.i64_in (zz + 1) (by omega)
    have e4 := IntWalk.i64_in (k : Int) (by omega)
    have e5 := IntWalk.i64_in (m : Int) (by omega)
    unfold maxLen at hcp2
    go_wp2_with fail
    have B3 : Hid (Below w1.heap.size w1 (w2.setCell ⟨gi, m, none⟩ (.int .i64 (zz + 1))).drew) := (b2.setCell (p := ⟨gi, m, none⟩) hgi1 _).drew
    go_region
    clear e1 e2 e3 e4 e5
    go_wp2_with fail
    with_reducible refine (iKeyRows_t _ _ _ (t.take (1 + k)) ((HI.out.take (1 + k) (by omega)).below B3.out) (lensT_take HM.out _) HKT.out).mono ?_
    rintro e w' ⟨rfl, rfl⟩
    go_wp2_with fail
    with_reducible refine (iKeyRows_f _ _ _ _ HS.out.ints.drew HLS.out HNO.out).mono ?_
    rintro e w' ⟨rfl, rfl⟩
    go_wp2_with fail
    go_ret
    exact ⟨rfl, hb.trans (B3.out.mono hb.size)⟩
  · have HK := Lib.hid hk0
    clear hk0
    go_wp2_with fail
    with_reducible refine (iKeyRows_f _ _ _ t HI.out HM.out HK.out).mono ?_
    rintro e w' ⟨rfl, rfl⟩
    go_wp2_with fail
    with_reducible refine (sKeyRows_f _ _ _ t HI.out HM.out HK.out).mono ?_
    rintro e w' ⟨rfl, rfl⟩
    go_wp2_with fail
    go_ret
    exact ⟨rfl, hb⟩

theorem ownsRow_succ' {W : World} {base : Nat} {e : TypeId} {size : Nat} {v : Value} {k : Nat} {xs : List Value} (h : W.ownsRow base e size v (k + 1) xs) : ∃ g cap, v = .slice (some ⟨g, 0, none⟩) (k + 1) cap := by
  rcases h.2 with ⟨_, h0⟩ | ⟨g, cap, _, h, _⟩
  · omega
  · exact ⟨g, cap, h⟩

/-- an outer slice of the call's own, its rows anywhere -/
theorem IntSS.of_outer {w : World} {base : Nat} {P : Nat → Prop} {v : Value} {vs : List Value} {tt : List (List Int)} (h : w.ownsRow base 26 1 v tt.length vs) (hP : ∀ k, base ≤ k → P k)
    (hr : ∀ i, i < tt.length → ∃ ai ci, vs[i]? = some (.slice ai (tt[i]?.getD []).length ci) ∧ (tt[i]?.getD []).length ≤ ci ∧ RowIn w P ai (tt[i]?.getD [])) : IntSS w P v tt := by
  rcases h.2 with ⟨rfl, h0⟩ | ⟨g, cap, cur, rfl, hb, hh, hn, hm, hs, ht⟩
  · exact ⟨none, 0, by rw [h0], by omega, fun i hi => by omega⟩
  · refine ⟨_, cap, rfl, hn, fun i hi => ?_⟩
    obtain ⟨ai, ci, e1, e2, e3⟩ := hr i hi
    exact ⟨g, 0, ai, ci, rfl, hP _ hb, by rw [Nat.zero_add, h.cellAt i (by omega), e1], e2, e3⟩

/-- the first rows, the last of them again and again -/
def negT (t : List (List Int)) (k n : Nat) : List (List Int) := (List.range n).map fun i => t[min i k]?.getD []
def negU (us : List Value) (k n : Nat) : List Value := (List.range n).map fun i => us[min i k]?.getD (.slice none 0 0)
theorem negU_succ (us : List Value) {k n : Nat} (h : k ≤ n) : negU us k (n + 1) = negU us k n ++ [us[k]?.getD (.slice none 0 0)] := by
  unfold negU; rw [List.range_succ, List.map_append, List.map_singleton, Nat.min_eq_right h]
theorem negU_start (us : List Value) {k : Nat} (h : k < us.length) : us.take (k + 1) = negU us k (k + 1) := by
  unfold negU
  apply List.ext_getElem?
  intro i
  by_cases hi : i < k + 1
  · rw [List.getElem?_take, if_pos hi, List.getElem?_map, List.getElem?_range hi]
    simp only [Option.map_some]
    rw [Nat.min_eq_left (by omega), List.getElem?_eq_getElem (by omega)]; rfl
  · rw [List.getElem?_eq_none (by simp; omega), List.getElem?_eq_none (by simp; omega)]
theorem negU_len (us : List Value) (k n : Nat) : (negU us k n).length = n := by simp [negU]
theorem negT_len (t : List (List Int)) (k n : Nat) : (negT t k n).length = n := by simp [negT]
theorem negT_at (t : List (List Int)) {k n i : Nat} (h : i < n) : (negT t k n)[i]?.getD [] = t[min i k]?.getD [] := by
  unfold negT; rw [List.getElem?_map, List.getElem?_range h]; rfl
theorem negU_at (us : List Value) {k n i : Nat} (h : i < n) : (negU us k n)[i]? = some (us[min i k]?.getD (.slice none 0 0)) := by
  unfold negU; rw [List.getElem?_map, List.getElem?_range h]; rfl
theorem rowsOk_neg {t : List (List Int)} (h : rowsOk t) {k : Nat} (hk : k < t.length) : rowsOk (negT t k t.length) := by
  refine ⟨fun i hi => ?_, by rw [negT_len]; exact h.2.1, by rw [negT_len]; exact h.2.2⟩
  rw [negT_len] at hi
  rw [negT_at t hi]
  have := h.1 (min i k) (by omega)
  refine ⟨this.1, this.2.1, fun c hc => ?_⟩
  have hh := this.2.2 c hc
  unfold elOk at hh ⊢
  exact ⟨hh.1, hh.2.1, by omega, fun e => hh.2.2.2 (by omega)⟩
theorem lensT_ok {t : List (List Int)} (h : rowsOk t) : lensT t := by
  refine ⟨by have := h.2.2; omega, fun r hr => ?_⟩
  obtain ⟨i, hi, rfl⟩ := List.mem_iff_getElem.1 hr
  have := (h.1 i hi).1
  rw [List.getElem?_eq_getElem hi] at this
  simp at this
  omega
theorem OwnU.one_cells {w : World} {base : Nat} {v : Value} {t : List (List Int)} {us : List Value} (h : OwnU w base v t us) : ∀ u ∈ us, u.oneCell' = true := by
  intro u hu
  obtain ⟨i, hi, rfl⟩ := List.mem_iff_getElem.1 hu
  obtain ⟨gi, ci, e, _⟩ := (h.rows i (by rw [← h.len]; exact hi)).form
  rw [List.getElem?_eq_getElem hi] at e
  simp at e
  rw [e]; rfl

set_option maxHeartbeats 1000000 in
theorem wFnKeyRowsNeg (a : Option Addr) (len cap : Nat) (z : List Int) (a1 : Option Addr) (len1 cap1 : Nat) (z1 : List Int) (w : World) (h : IsRow .u8 w a len cap z) (_ : IsRow .u8 w a1 len1 cap1 z1) :
    Calls Try.prog 3 #[.slice a len cap, .slice a1 len1 cap1] w fun e w' => e = .returned (.bool true) ∧ Below w.heap.size w w' := by
  obtain ⟨j0, hj0, hy0, hy1, hy2⟩ := info_parts Try.info_row
  have H := Lib.hid h; clear h
  by_cases hl : 1048576 < len
  · go_enter Try.func3, Try.ntmps3
    go_wp2_with fail
    go_ret
    exact ⟨rfl, Below.refl _ _⟩
  by_cases hl1 : 1048576 < len1
  · have d1 : decide ((1048576 : Int) < (len1 : Int)) = true := by simp; omega
    go_enter Try.func3, Try.ntmps3
    go_wp2_with fail
    go_ret
    exact ⟨rfl, Below.refl _ _⟩
  have d1 : decide ((1048576 : Int) < (len1 : Int)) = false := by simp; omega
  go_enter Try.func3, Try.ntmps3
  go_wp2_with fail
  refine (drawKeyRows _ _ _ _ _ H.out).mono ?_
  rintro e w1 ⟨v, t, us, rfl, ho, htl, hlens, hb⟩
  have HI := Lib.hid ho.ints
  have HO := Lib.hid ho
  have HM := Lib.hid (lensT_of htl hlens.out)
  obtain ⟨g, cp, rfl, hgb, hgs, hcp1, hcp2⟩ := ho.form
  clear ho
  by_cases hk0 : rowsOk t
  · have HK := Lib.hid hk0
    have ht1 : 1 ≤ t.length := hk0.2.1
    obtain ⟨k, hkl, hke⟩ := mod_nat len1 t.length ht1
    have hke2 : (len1 : Int).tmod (t.length : Int) = (k : Int) := by rw [Int.tmod_eq_emod_of_nonneg (by omega)]; exact hke
    have HN := Lib.hid (rowsOk_neg hk0 hkl)
    have hul : us.length = t.length := HO.out.len
    have HUL := Lib.hid hul
    obtain ⟨gi, ci, hu, hc, hgi1, hgi2, hgi3, hci1, hci2, hoi⟩ := HO.out.row hkl
    have huk : us[k]?.getD (.slice none 0 0) = .slice (some ⟨gi, 0, none⟩) (t[k]?.getD []).length ci := by rw [hu]; rfl
    have HUK := Lib.hid huk
    have hsrc : Hid (∀ j u, (us.take (k + 1))[j]? = some u → (w1.alloc (.cells #[] 26)).cell? ((⟨g, 0, none⟩ : Addr).add j) = some u) := by
      intro j u hj
      rw [List.getElem?_take] at hj
      by_cases e : j < k + 1
      · rw [if_pos e] at hj; exact (HO.out.outer.alloc _).cells rfl j u hj
      · rw [if_neg e] at hj; cases hj
    generalize hlk : (t[k]?.getD []).length = lk at *
    have hcA : ∀ W : World, Below w1.heap.size w1 W → W.cell? ⟨g, k, none⟩ = some (.slice (some ⟨gi, 0, none⟩) lk ci) := fun W hW => (hW.cell (p := ⟨g, k, none⟩) hgs).trans hc
    have HCA := Lib.hid hcA
    clear hk0 hul hu hoi huk hcA hlk
    go_wp2_with fail
    with_reducible refine (iKeyRows_t _ _ _ t HI.out HM.out HK.out).mono ?_
    rintro e w' ⟨rfl, rfl⟩
    go_wp2_with fail
    with_reducible refine (sKeyRows_t _ _ _ t HI.out HM.out HK.out).mono ?_
    rintro e w' ⟨rfl, rfl⟩
    unfold maxLen at hcp2
    go_wp2_with (at_builtin; refine wpList_append_own _ rfl _ _ 23 rfl w1.heap.size 26 j0 (.slice none 0 0) 1 24 Try.underlying23 hj0 hy0 hy1 hy2 rfl (by decide) _ _ _ rfl (World.ownsRow_made w1 #[] 0 (Nat.le_refl _) (Nat.zero_le _) rfl) ⟨g, 0, none⟩ (k + 1) cp (us.take (k + 1)) rfl ?c1 hsrc.out ?c2 ?c3 ?c4 ?c5 ?_)
    case c1 => have := HUL.out; simp; omega
    case c2 => exact fun u hu => HO.out.one_cells u (List.mem_of_mem_take hu)
    case c3 => unfold maxLen; omega
    case c4 => omega
    case c5 => simp
    intro v2 w2 hown hgrow hnil
    have hown2 : Hid (w2.ownsRow w1.heap.size 26 1 v2 (k + 1) (negU us k (k + 1))) := by rw [negU_start us (by have := HUL.out; omega)] at hown; simpa [Hid] using hown
    have b2 : Below w1.heap.size w1 w2 := ((Below.refl _ _).alloc (Nat.le_refl _) _).grown hgrow (by simp) (fun q e => by cases e; exact Nat.le_refl _)
    clear hown hgrow hnil
    obtain ⟨g2, cp2, rfl⟩ := ownsRow_succ' hown2.out
    go_wp2_with fail
    go_loopw [9] (fun v wr => ∃ n : Nat, k + 1 ≤ n ∧ n ≤ t.length ∧ wr.ownsRow w1.heap.size 26 1 v n (negU us k n) ∧ Below w1.heap.size w1 wr) (fun v _ => t.length - slLen v)
    case atStart => exact ⟨k + 1, by omega, by omega, hown2.out, b2⟩
    case round =>
      obtain ⟨n, hn1, hn2, hown, hbel⟩ := hrel
      have HOWN := Lib.hid hown
      obtain ⟨n', rfl⟩ : ∃ n', n = n' + 1 := ⟨n - 1, by omega⟩
      obtain ⟨g3, cp3, rfl⟩ := ownsRow_succ' hown
      have hg3 := (hown.lt g3 rfl).1
      have hc3 := HCA.out wr hbel
      by_cases hlt : n' + 1 < t.length
      · clear hown
        go_wp2_with (at_builtin; refine wpList_append_own _ rfl _ _ 23 rfl w1.heap.size 26 j0 (.slice none 0 0) 1 24 Try.underlying23 hj0 hy0 hy1 hy2 rfl (by decide) _ _ _ rfl (HOWN.out.alloc _) ⟨wr.heap.size, 0, none⟩ 1 1 [.slice (some ⟨gi, 0, none⟩) lk ci] rfl rfl (cell_one_new _ _ _) (by simp [Value.oneCell']) ?d3 ?d4 ?d5 ?_)
        case d3 => unfold maxLen; omega
        case d4 => omega
        case d5 => have := hbel.size; simp; omega
        intro v4 w4 hown hgrow hnil
        have hown4 : Hid (w4.ownsRow w1.heap.size 26 1 v4 (n' + 1 + 1) (negU us k (n' + 1 + 1))) := by unfold Hid; rw [negU_succ us (show k ≤ n' + 1 by omega), HUK.out]; exact hown
        have b4 := Lib.hid ((hbel.alloc hbel.size (.cells #[.slice (some ⟨gi, 0, none⟩) lk ci] 26)).grown hgrow (by have := hbel.size; simp; omega) (fun q e => by cases e; exact hg3))
        obtain ⟨g5, cp5, rfl⟩ := ownsRow_succ' hown4.out
        clear hown hgrow hnil
        go_wp2_with fail
        go_roundw
        case rel => exact ⟨n' + 1 + 1, by omega, by omega, hown4.out, b4.out⟩
        case measure => simp [slLen]; omega
      · obtain rfl : n' = t.length - 1 := by omega
        have hnn : t.length - 1 + 1 = t.length := by omega
        have HT : Hid (IntSS wr (fun _ => True) (.slice (some ⟨g3, 0, none⟩) t.length cp3) (negT t k t.length)) := by
          unfold Hid
          rw [hnn] at hown
          refine IntSS.of_outer (base := w1.heap.size) (vs := negU us k t.length) (by rw [negT_len]; exact hown) (fun _ _ => trivial) (fun i hi => ?_)
          rw [negT_len] at hi
          rw [negT_at t hi, negU_at us hi]
          obtain ⟨gj, cj, hu, _, _, _, _, hl, _, ho⟩ := HO.out.row (i := min i k) (by omega)
          refine ⟨_, cj, by rw [hu]; rfl, hl, ?_⟩
          obtain ⟨_, _, hv, _, hr⟩ := (ho.ints.below hbel).any
          cases hv
          exact hr
        clear hown hnn
        go_wp2_with fail
        with_reducible refine (iKeyRows_t _ _ _ _ HT.out (lensT_ok HN.out) HN.out).mono ?_
        rintro e w' ⟨rfl, rfl⟩
        go_wp2_with fail
        go_ret
        exact ⟨rfl, hb.trans (hbel.mono hb.size)⟩
  · have HK := Lib.hid hk0
    clear hk0
    go_wp2_with fail
    with_reducible refine (iKeyRows_f _ _ _ t HI.out HM.out HK.out).mono ?_
    rintro e w' ⟨rfl, rfl⟩
    go_wp2_with fail
    with_reducible refine (sKeyRows_f _ _ _ t HI.out HM.out HK.out).mono ?_
    rintro e w' ⟨rfl, rfl⟩
    go_wp2_with fail
    go_ret
    exact ⟨rfl, hb⟩

end Go.Proofs.Ytahnabijaoimfaa
