/- Contracts of TableTotal and of the laws' comparison of rows. -/
import Derived.Test.YtihkahojicafiaaSums
import Derived.Test.YtihkahojicafiaaInts
import Derived.Test.YtihkahojicafiaaFarP
namespace Go.Proofs.Ytihkahojicafiaa
open Go.RowKit

theorem fold_small {l : List Int} (h : ∀ z ∈ l, -100000 ≤ z ∧ z ≤ 100000) : ∀ s : Int, -1000000000 + 100000 * l.length ≤ s → s ≤ 1000000000 - 100000 * l.length → l.foldl (fun s n => wrap64 (s + n)) s = s + l.sum := by
  induction l with
  | nil => intro s _ _; simp
  | cons a l ih =>
    intro s h0 h1
    have h2 := h a (by simp)
    simp only [List.length_cons] at h0 h1
    rw [List.foldl_cons, IntWalk.wrap64_in _ ⟨by omega, by omega⟩, ih (fun z hz => h z (by simp [hz])) _ (by omega) (by omega), List.sum_cons]
    omega
theorem tot_small {l : List Int} (h : ∀ z ∈ l, -100000 ≤ z ∧ z ≤ 100000) (hl : l.length ≤ 1000) : tot l = l.sum := by
  unfold tot; rw [fold_small h 0 (by omega) (by omega)]; omega
theorem sum_range (n : Nat) (f : Nat → Int) : ((List.range n).map f).sum = S n f := by
  induction n with
  | zero => rfl
  | succ n ih => rw [List.range_succ, List.map_append, List.sum_append, ih]; simp [S]
theorem tot_rowsL {t : List (List Int)} (h : rectS t) : tot (rowsL t) = totalT t := by
  rw [tot_small ?_ (by rw [rowsL_len]; have := h.2.1; omega)]
  · unfold rowsL; rw [sum_range]; rfl
  · intro z hz
    unfold rowsL at hz
    obtain ⟨i, hi, rfl⟩ := List.mem_map.1 hz
    have hi' := List.mem_range.1 hi
    have h1 := S_nonneg (n := wid t 0) (f := cel t i) (fun j hj => ((h.2.2.2.2 i hi').2 j hj).1)
    have h2 := S_le (n := wid t 0) (f := cel t i) (c := 1000) (fun j hj => ((h.2.2.2.2 i hi').2 j hj).2)
    have := h.2.2.2.1
    omega

set_option maxHeartbeats 400000 in
theorem lSameInts (w : World) (P Q : Nat → Prop) (v u : Value) (zs ys : List Int) (h : IntS w P v zs) (h2 : IntS w Q u ys) (hl : zs.length ≤ 4611686018427387904) (_ : ys.length ≤ 4611686018427387904) :
    Calls Try.prog 27 #[v, u] w fun e w' => e = .returned (.bool (decide (zs = ys))) ∧ ∃ n, w' = w.drewN n := by
  obtain ⟨a, cap, rfl, _, hr⟩ := h
  obtain ⟨a2, cap2, rfl, _, hr2⟩ := h2
  have HR := Lib.hid hr; clear hr
  have HR2 := Lib.hid hr2; clear hr2
  by_cases he : zs.length = ys.length
  · have c1 : ((zs.length : Int) != (ys.length : Int)) = false := by simp; omega
    have HE := Lib.hid he
    clear he
    go_enter Try.func27, Try.ntmps27
    go_wp2_with fail
    go_loopw [5] (fun i wr => ∃ k n : Nat, k ≤ zs.length ∧ i = .int .i64 k ∧ Hid (∀ j, j < k → zs[j]?.getD 0 = ys[j]?.getD 0) ∧ wr = w.drewN n) (fun i _ => zs.length - (intOf i).toNat)
    case atStart => exact ⟨0, 0, Nat.zero_le _, rfl, fun j hj => by omega, rfl⟩
    case round =>
      obtain ⟨k, n, hk, rfl, hall, rfl⟩ := hrel
      by_cases hlt : k < zs.length
      · obtain ⟨b, off, rfl, _, hc⟩ := HR.out k hlt
        obtain ⟨b2, off2, rfl, _, hc2⟩ := HR2.out k (by have := HE.out; omega)
        have hki : (k : Int) < (zs.length : Int) := by omega
        have hki2 : (k : Int) < (ys.length : Int) := by have := HE.out; omega
        by_cases e : zs[k]?.getD 0 = ys[k]?.getD 0
        · have HN : Hid (∀ j, j < k + 1 → zs[j]?.getD 0 = ys[j]?.getD 0) := by
            intro j hj
            by_cases ej : j = k
            · subst ej; exact e
            · exact hall.out j (by omega)
          rw [← e] at hc2
          clear e
          generalize zs[k]?.getD 0 = z at hc hc2
          go_wp2_with fail
          go_quiet (fail)
          go_wp2_with fail
          go_roundw
          case rel => exact ⟨k + 1, n + nq, by omega, by go_num, HN, by first | rfl | rw [World.drewN_drewN]⟩
          case measure => simp [intOf]; omega
        · have D : Hid (¬ zs = ys) := fun hh => e (by rw [hh])
          have hne : (zs[k]?.getD 0 != ys[k]?.getD 0) = true := by simpa using e
          clear e
          generalize zs[k]?.getD 0 = z at *
          generalize ys[k]?.getD 0 = y at *
          go_wp2_with fail
          go_quiet (fail)
          go_wp2_with fail
          go_ret
          exact ⟨ret_b (by simp [D.out]), n + nq, by rw [World.drewN_drewN]⟩
      · have D : Hid (zs = ys) := by
          unfold Hid
          have hE := HE.out
          apply List.ext_getElem?
          intro j
          by_cases hj : j < zs.length
          · have := hall.out j (by omega)
            rw [List.getElem?_eq_getElem hj, List.getElem?_eq_getElem (by omega)] at this ⊢
            simpa using this
          · rw [List.getElem?_eq_none (by omega), List.getElem?_eq_none (by omega)]
        go_wp2_with fail
        go_ret
        exact ⟨ret_b (by simp [D.out]), n, rfl⟩
  · have c1 : ((zs.length : Int) != (ys.length : Int)) = true := by simp; omega
    have D : Hid (¬ zs = ys) := fun hh => he (by rw [hh])
    clear he
    go_enter Try.func27, Try.ntmps27
    go_wp2_with fail
    go_ret
    exact ⟨ret_b (by simp [D.out]), 0, rfl⟩

set_option maxHeartbeats 400000 in
theorem lSameRows (w : World) (P Q : Nat → Prop) (v u : Value) (a b : List (List Int)) (ha : IntSS w P v a) (hb : IntSS w Q u b) (la : lensT a) (lb : lensT b) :
    Calls Try.prog 14 #[v, u] w fun e w' => e = .returned (.bool (decide (a = b))) ∧ ∃ n, w' = w.drewN n := by
  obtain ⟨x, cap, rfl, _, hr⟩ := ha
  obtain ⟨x2, cap2, rfl, _, hr2⟩ := hb
  have HR := Lib.hid hr; clear hr
  have HR2 := Lib.hid hr2; clear hr2
  have la1 := la.1
  have lb1 := lb.1
  have LA := Lib.hid la.2
  have LB := Lib.hid lb.2
  clear la lb
  by_cases he : a.length = b.length
  · have c1 : ((a.length : Int) != (b.length : Int)) = false := by simp; omega
    have HE := Lib.hid he
    clear he
    go_enter Try.func14, Try.ntmps14
    go_wp2_with fail
    go_loopw [5] (fun i wr => ∃ k n : Nat, k ≤ a.length ∧ i = .int .i64 k ∧ Hid (∀ j, j < k → a[j]?.getD [] = b[j]?.getD []) ∧ wr = w.drewN n) (fun i _ => a.length - (intOf i).toNat)
    case atStart => exact ⟨0, 0, Nat.zero_le _, rfl, fun j hj => by omega, rfl⟩
    case round =>
      obtain ⟨k, n, hk, rfl, hall, hwr⟩ := hrel
      by_cases hlt : k < a.length
      · have R1 : RowsIn wr P x a := by rw [hwr]; exact HR.out
        have R2 : RowsIn wr Q x2 b := by rw [hwr]; exact HR2.out
        have HW := Lib.hid hwr
        clear hwr
        have hltb : k < b.length := by have := HE.out; omega
        obtain ⟨b1, o1, a1, c1', rfl, _, hc1, hi1⟩ := R1.row hlt _ rfl
        obtain ⟨b2, o2, a2, c2', rfl, _, hc2, hi2⟩ := R2.row hltb _ rfl
        have HI1 := Lib.hid hi1
        have HI2 := Lib.hid hi2
        have l1 := LA.out k
        have l2 := LB.out k
        unfold wid at l1 l2
        have hki : (k : Int) < (a.length : Int) := by omega
        have hki2 : (k : Int) < (b.length : Int) := by omega
        obtain ⟨r1, hr1⟩ : ∃ r, a[k]?.getD [] = r := ⟨_, rfl⟩
        obtain ⟨r2, hr2⟩ : ∃ r, b[k]?.getD [] = r := ⟨_, rfl⟩
        rw [hr1] at hc1 HI1 l1
        rw [hr2] at hc2 HI2 l2
        clear hi1 hi2 R1 R2
        by_cases e : r1 = r2
        · have HN : Hid (∀ j, j < k + 1 → a[j]?.getD [] = b[j]?.getD []) := by
            intro j hj
            by_cases ej : j = k
            · subst ej; rw [hr1, hr2]; exact e
            · exact hall.out j (by omega)
          have D : Hid (decide (r1 = r2) = true) := by simpa [Hid] using e
          clear hr1 hr2 e
          go_wp2_with fail
          go_quiet ((go_at_call 27; exact Calls.quiet_of (lSameInts _ _ _ _ _ r1 r2 HI1.out HI2.out l1 l2)))
          rw [D.out]
          go_wp2_with fail
          go_roundw
          case rel => exact ⟨k + 1, n + nq, by omega, by go_num, HN, by rw [HW.out]; simp⟩
          case measure => simp [intOf]; omega
        · have DD : Hid (¬ a = b) := fun hh => e (by rw [← hr1, ← hr2, hh])
          have D : Hid (decide (r1 = r2) = false) := by simpa [Hid] using e
          clear hr1 hr2 e
          go_wp2_with fail
          go_quiet ((go_at_call 27; exact Calls.quiet_of (lSameInts _ _ _ _ _ r1 r2 HI1.out HI2.out l1 l2)))
          rw [D.out]
          go_wp2_with fail
          go_ret
          exact ⟨ret_b (by simp [DD.out]), n + nq, by rw [HW.out, World.drewN_drewN]⟩
      · have D : Hid (a = b) := by
          unfold Hid
          have hE := HE.out
          apply List.ext_getElem?
          intro j
          by_cases hj : j < a.length
          · have := hall.out j (by omega)
            rw [List.getElem?_eq_getElem hj, List.getElem?_eq_getElem (by omega)] at this ⊢
            simpa using this
          · rw [List.getElem?_eq_none (by omega), List.getElem?_eq_none (by omega)]
        subst hwr
        go_wp2_with fail
        go_ret
        exact ⟨ret_b (by simp [D.out]), n, rfl⟩
  · have c1 : ((a.length : Int) != (b.length : Int)) = true := by simp; omega
    have D : Hid (¬ a = b) := fun hh => he (by rw [hh])
    clear he
    go_enter Try.func14, Try.ntmps14
    go_wp2_with fail
    go_ret
    exact ⟨ret_b (by simp [D.out]), 0, rfl⟩

/-- tables with the same sizes and cells are one -/
theorem tab_ext {a b : List (List Int)} (hs : same a b) (hc : ∀ i j, i < a.length → j < wid a i → cel a i j = cel b i j) : a = b := by
  apply List.ext_getElem?
  intro i
  by_cases hi : i < a.length
  · have hi2 : i < b.length := by rw [← hs.1]; exact hi
    have hw := hs.2 i hi
    have ea : a[i]?.getD [] = a[i] := by rw [List.getElem?_eq_getElem hi]; rfl
    have eb : b[i]?.getD [] = b[i] := by rw [List.getElem?_eq_getElem hi2]; rfl
    rw [List.getElem?_eq_getElem hi, List.getElem?_eq_getElem hi2]
    congr 1
    unfold wid at hw
    rw [ea, eb] at hw
    apply List.ext_getElem?
    intro j
    by_cases hj : j < a[i].length
    · have := hc i j hi (by unfold wid; rw [ea]; exact hj)
      unfold cel at this
      rw [ea, eb, List.getElem?_eq_getElem hj, List.getElem?_eq_getElem (by omega)] at this
      rw [List.getElem?_eq_getElem hj, List.getElem?_eq_getElem (by omega)]
      simpa using this
    · rw [List.getElem?_eq_none (by omega), List.getElem?_eq_none (by omega)]
  · have := hs.1
    rw [List.getElem?_eq_none (by omega), List.getElem?_eq_none (by omega)]

theorem dif_comm (a b : List (List Int)) (i j : Nat) : dif a b i j = dif b a i j := by unfold dif; omega
theorem farS_comm {a b : List (List Int)} (hs : same a b) : farS b a = farS a b := by
  unfold farS
  rw [← hs.1]
  refine S_congr (fun i hi => ?_)
  rw [← hs.2 i hi]
  exact S_congr (fun j _ => dif_comm b a i j)
theorem S_zero_all {n : Nat} {f : Nat → Int} (h : ∀ i, i < n → 0 ≤ f i) (hz : S n f = 0) : ∀ i, i < n → f i = 0 := by
  intro i hi
  have := S_ge_one h hi
  have := h i hi
  omega
theorem farS_zero {a b : List (List Int)} (hs : same a b) : farS a b = 0 ↔ a = b := by
  constructor
  · intro h
    refine tab_ext hs (fun i j hi hj => ?_)
    have h1 := S_zero_all (fun i _ => S_nonneg (fun j _ => by unfold dif; omega)) h i hi
    have h2 := S_zero_all (fun j _ => by unfold dif; omega) h1 j hj
    unfold dif at h2; omega
  · rintro rfl
    unfold farS
    rw [S_congr (g := fun _ => 0) (fun i _ => ?_), S_zero]
    rw [S_congr (g := fun _ => 0) (fun j _ => by unfold dif; omega), S_zero]
theorem S_mono {n : Nat} {f g : Nat → Int} (h : ∀ i, i < n → f i ≤ g i) : S n f ≤ S n g := by
  have := S_nonneg (n := n) (f := fun i => g i - f i) (fun i hi => by have := h i hi; omega)
  rw [S_sub] at this; omega
theorem farS_tot {a b : List (List Int)} (hs : same a b) (ha : tblOk a) (_ : tblOk b) : totalT a - totalT b ≤ farS a b ∧ totalT b - totalT a ≤ farS a b := by
  have hw : wid b 0 = wid a 0 := (hs.2 0 (by have := ha.1; omega)).symm
  have e : ∀ i, i < a.length → wid a i = wid a 0 := fun i hi => (ha.2.2.2.2 i hi).1
  unfold totalT farS
  rw [← hs.1, hw, ← S_sub, ← S_sub]
  constructor <;>
  · refine S_mono (fun i hi => ?_)
    rw [e i hi, ← S_sub]
    refine S_mono (fun j _ => ?_)
    unfold dif; omega

end Go.Proofs.Ytihkahojicafiaa
