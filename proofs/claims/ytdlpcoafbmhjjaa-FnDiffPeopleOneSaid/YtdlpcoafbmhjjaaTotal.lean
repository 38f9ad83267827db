/- Contracts of TableTotal and of the laws' comparison of rows. -/
import Derived.Test.YtdlpcoafbmhjjaaSums
import Derived.Test.YtdlpcoafbmhjjaaInts
import Derived.Test.YtdlpcoafbmhjjaaFarP
namespace Go.Proofs.Ytdlpcoafbmhjjaa
open Go.RowKit

theorem fold_small {l : List Int} (h : ∀ z ∈ l, -100000 ≤ z ∧ z ≤ 100000) : ∀ s : Int, -1000000000 + 100000 * l.length ≤ s → s ≤ 1000000000 - 100000 * l.length → l.foldl (fun s n => wrap64 (s + n)) s = s + l.sum := by
  induction l with
  | nil => intro s _ _; simp
  | cons a l ih =>
    intro s h0 h1
    have h2 := h a (by simp)
    simp only [List.length_cons] at h0 h1
    rw [List.foldl_cons, IntWalk.wrap64_in _ ⟨by omega, by omega⟩, ih (fun z hz => h z (by simp [hz])) _ (by omega) (by omega), List.sum_cons]
    omega
theorem tot_small {l : List Int} (h : ∀ z ∈ l, -100000 ≤ z ∧ z ≤ 100000) (hl : l.length ≤ 1000) : tot l = l.sum := by
  unfold tot; rw [fold_small h 0 (by omega) (by omega)]; omega
theorem sum_range (n : Nat) (f : Nat → Int) : ((List.range n).map f).sum = S n f := by
  induction n with
  | zero => rfl
  | succ n ih => rw [List.range_succ, List.map_append, List.sum_append, ih]; simp [S]
theorem tot_rowsL {t : List (List Int)} (h : rectS t) : tot (rowsL t) = totalT t := by
  rw [tot_small ?_ (by rw [rowsL_len]; have := h.2.1; omega)]
  · unfold rowsL; rw [sum_range]; rfl
  · intro z hz
    unfold rowsL at hz
    obtain ⟨i, hi, rfl⟩ := List.mem_map.1 hz
    have hi' := List.mem_range.1 hi
    have h1 := S_nonneg (n := wid t 0) (f := cel t i) (fun j hj => ((h.2.2.2.2 i hi').2 j hj).1)
    have h2 := S_le (n := wid t 0) (f := cel t i) (c := 1000) (fun j hj => ((h.2.2.2.2 i hi').2 j hj).2)
    have := h.2.2.2.1
    omega

set_option maxHeartbeats 400000 in
theorem iTableTotal (w : World) (P : Nat → Prop) (v : Value) (t : List (List Int)) (x : Int) (h : IntSS w P v t) (hl : lensT t) (hx : Hid ((if tblOk t then totalT t else -1) = x)) :
    Calls Try.prog 15 #[v] w fun e w' => e = .returned (.int .i64 x) ∧ Below w.heap.size w w' := by
  have HH := Lib.hid h
  have HL := Lib.hid hl
  obtain ⟨a, cap, rfl, _, _⟩ := h
  by_cases ht : tblOk t
  · have hv := hx.out
    rw [if_pos ht] at hv
    subst hv
    have D : Hid (decide (tblOk t) = true) := by simpa [Hid] using ht
    have HT := Lib.hid ht.rectS
    have hl4 := ht.2.1
    clear hx hl ht
    go_enter Try.func15, Try.ntmps15
    go_wp2_with fail
    with_reducible refine (iTableValid _ _ _ t HH.out HL.out).mono ?_
    rintro e w' ⟨rfl, rfl⟩
    rw [D.out]
    go_wp2_with fail
    with_reducible refine (iSumsOf _ _ _ t HH.out HT.out).mono ?_
    rintro e w1 ⟨vr, vc, rfl, oR, oC, b1⟩
    have OR := Lib.hid oR
    obtain ⟨g1, c1, rfl, _⟩ := oR.form
    obtain ⟨g2, c2, rfl, _⟩ := oC.form
    clear oR oC
    go_wp2_with fail
    with_reducible refine (iTotal _ _ _ (rowsL t) OR.out.ints (by rw [rowsL_len]; omega)).mono ?_
    rintro e w' ⟨rfl, rfl⟩
    rw [tot_rowsL HT.out]
    go_wp2_with fail
    go_ret
    exact ⟨rfl, b1⟩
  · have hv := hx.out
    rw [if_neg ht] at hv
    subst hv
    have D : Hid (decide (tblOk t) = false) := by simpa [Hid] using ht
    clear hx hl ht
    go_enter Try.func15, Try.ntmps15
    go_wp2_with fail
    with_reducible refine (iTableValid _ _ _ t HH.out HL.out).mono ?_
    rintro e w' ⟨rfl, rfl⟩
    rw [D.out]
    go_wp2_with fail
    go_ret
    exact ⟨rfl, Below.refl _ _⟩

/-- tables with the same sizes and cells are one -/
theorem tab_ext {a b : List (List Int)} (hs : same a b) (hc : ∀ i j, i < a.length → j < wid a i → cel a i j = cel b i j) : a = b := by
  apply List.ext_getElem?
  intro i
  by_cases hi : i < a.length
  · have hi2 : i < b.length := by rw [← hs.1]; exact hi
    have hw := hs.2 i hi
    have ea : a[i]?.getD [] = a[i] := by rw [List.getElem?_eq_getElem hi]; rfl
    have eb : b[i]?.getD [] = b[i] := by rw [List.getElem?_eq_getElem hi2]; rfl
    rw [List.getElem?_eq_getElem hi, List.getElem?_eq_getElem hi2]
    congr 1
    unfold wid at hw
    rw [ea, eb] at hw
    apply List.ext_getElem?
    intro j
    by_cases hj : j < a[i].length
    · have := hc i j hi (by unfold wid; rw [ea]; exact hj)
      unfold cel at this
      rw [ea, eb, List.getElem?_eq_getElem hj, List.getElem?_eq_getElem (by omega)] at this
      rw [List.getElem?_eq_getElem hj, List.getElem?_eq_getElem (by omega)]
      simpa using this
    · rw [List.getElem?_eq_none (by omega), List.getElem?_eq_none (by omega)]
  · have := hs.1
    rw [List.getElem?_eq_none (by omega), List.getElem?_eq_none (by omega)]

theorem dif_comm (a b : List (List Int)) (i j : Nat) : dif a b i j = dif b a i j := by unfold dif; omega
theorem farS_comm {a b : List (List Int)} (hs : same a b) : farS b a = farS a b := by
  unfold farS
  rw [← hs.1]
  refine S_congr (fun i hi => ?_)
  rw [← hs.2 i hi]
  exact S_congr (fun j _ => dif_comm b a i j)
theorem S_zero_all {n : Nat} {f : Nat → Int} (h : ∀ i, i < n → 0 ≤ f i) (hz : S n f = 0) : ∀ i, i < n → f i = 0 := by
  intro i hi
  have := S_ge_one h hi
  have := h i hi
  omega
theorem farS_zero {a b : List (List Int)} (hs : same a b) : farS a b = 0 ↔ a = b := by
  constructor
  · intro h
    refine tab_ext hs (fun i j hi hj => ?_)
    have h1 := S_zero_all (fun i _ => S_nonneg (fun j _ => by unfold dif; omega)) h i hi
    have h2 := S_zero_all (fun j _ => by unfold dif; omega) h1 j hj
    unfold dif at h2; omega
  · rintro rfl
    unfold farS
    rw [S_congr (g := fun _ => 0) (fun i _ => ?_), S_zero]
    rw [S_congr (g := fun _ => 0) (fun j _ => by unfold dif; omega), S_zero]
theorem S_mono {n : Nat} {f g : Nat → Int} (h : ∀ i, i < n → f i ≤ g i) : S n f ≤ S n g := by
  have := S_nonneg (n := n) (f := fun i => g i - f i) (fun i hi => by have := h i hi; omega)
  rw [S_sub] at this; omega
theorem farS_tot {a b : List (List Int)} (hs : same a b) (ha : tblOk a) (_ : tblOk b) : totalT a - totalT b ≤ farS a b ∧ totalT b - totalT a ≤ farS a b := by
  have hw : wid b 0 = wid a 0 := (hs.2 0 (by have := ha.1; omega)).symm
  have e : ∀ i, i < a.length → wid a i = wid a 0 := fun i hi => (ha.2.2.2.2 i hi).1
  unfold totalT farS
  rw [← hs.1, hw, ← S_sub, ← S_sub]
  constructor <;>
  · refine S_mono (fun i hi => ?_)
    rw [e i hi, ← S_sub]
    refine S_mono (fun j _ => ?_)
    unfold dif; omega

end Go.Proofs.Ytdlpcoafbmhjjaa
