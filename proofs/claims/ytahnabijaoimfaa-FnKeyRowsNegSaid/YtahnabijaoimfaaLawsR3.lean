/- The walks of the laws on means of changes. -/
import Derived.Test.YtahnabijaoimfaaKeyRD2
import Derived.Test.YtahnabijaoimfaaKeySp
namespace Go.Proofs.Ytahnabijaoimfaa
open Go.RowKit

theorem lensT_of {t : List (List Int)} (h1 : t.length ≤ 4) (h2 : ∀ i, i < t.length → 16 ≤ (t[i]?.getD []).length ∧ (t[i]?.getD []).length ≤ 17) : lensT t := by
  refine ⟨by omega, fun r hr => ?_⟩
  obtain ⟨i, hi, rfl⟩ := List.mem_iff_getElem.1 hr
  have := h2 i hi
  rw [List.getElem?_eq_getElem hi] at this
  simp at this
  omega
theorem IntSS.take {w : World} {P : Nat → Prop} {a : Option Addr} {n cap : Nat} {t : List (List Int)} (h : IntSS w P (.slice a n cap) t) (k : Nat) (hk : k ≤ t.length) : IntSS w P (.slice a k cap) (t.take k) := by
  obtain ⟨a', cap', e, hc, hr⟩ := h
  cases e
  have hl : (t.take k).length = k := by simp; omega
  refine ⟨a, cap, by rw [hl], by omega, fun i hi => ?_⟩
  rw [hl] at hi
  rw [List.getElem?_take, if_pos hi]
  exact hr i (by omega)
theorem rowsOk_take {t : List (List Int)} (h : rowsOk t) (k : Nat) (h1 : 1 ≤ k) (h2 : k ≤ t.length) : rowsOk (t.take k) := by
  have hl : (t.take k).length = k := by simp; omega
  refine ⟨fun i hi => ?_, by omega, by have := h.2.2; omega⟩
  rw [hl] at hi
  rw [List.getElem?_take, if_pos hi]
  exact h.1 i (by omega)
theorem lensT_take {t : List (List Int)} (h : lensT t) (k : Nat) : lensT (t.take k) :=
  ⟨Nat.le_trans (by simp; omega) h.1, fun r hr => h.2 r (List.mem_of_mem_take hr)⟩
theorem mod_nat (x y : Nat) (h : 1 ≤ y) : ∃ k : Nat, k < y ∧ (x : Int) % (y : Int) = (k : Int) := ⟨x % y, Nat.mod_lt _ h, (Int.natCast_emod x y).symm⟩

set_option maxHeartbeats 400000 in
theorem wFnKeyMean (a : Option Addr) (len cap : Nat) (z : List Int) (w : World) (h : IsRow .u8 w a len cap z) :
    Calls Try.prog 7 #[.slice a len cap] w fun e w' => e = .returned (.bool true) ∧ Below w.heap.size w w' := by
  have H := Lib.hid h; clear h
  by_cases hl : 1048576 < len
  · go_enter Try.func7, Try.ntmps7
    go_wp2_with fail
    go_ret
    exact ⟨rfl, Below.refl _ _⟩
  go_enter Try.func7, Try.ntmps7
  go_wp2_with fail
  refine (drawKeyMean _ _ _ _ _ H.out).mono ?_
  rintro e w1 ⟨v, t, us, n, rfl, ho, htl, hlens, hn1, hn2, hb⟩
  have HI := Lib.hid ho.ints
  have HM := Lib.hid (lensT_of htl hlens.out)
  clear ho hlens
  by_cases hk : rowsOk t ∧ 0 ≤ n ∧ n ≤ 40
  · have HD : Hid (kmean t n = 16 * n) := if_pos hk
    obtain ⟨_, k1, k2⟩ := hk
    go_wp2_with fail
    with_reducible refine (iKeyMean _ _ _ t n _ HI.out HM.out HD).mono ?_
    rintro e w' ⟨rfl, rfl⟩
    go_wp2_with fail
    with_reducible refine (sKeyMean _ _ _ t n _ HI.out HM.out HD).mono ?_
    rintro e w' ⟨rfl, rfl⟩
    have c2 : decide (16 * n < 0) = false := by simp; omega
    have c3 : (16 * n == n * 16) = true := by simp; omega
    go_wp2_with fail
    go_ret
    exact ⟨rfl, hb⟩
  · have HD := Lib.hid (kmean_out hk)
    clear hk
    go_wp2_with fail
    with_reducible refine (iKeyMean _ _ _ t n _ HI.out HM.out HD).mono ?_
    rintro e w' ⟨rfl, rfl⟩
    go_wp2_with fail
    with_reducible refine (sKeyMean _ _ _ t n _ HI.out HM.out HD).mono ?_
    rintro e w' ⟨rfl, rfl⟩
    go_wp2_with fail
    go_ret
    exact ⟨rfl, hb⟩

set_option maxHeartbeats 400000 in
theorem wFnKeyMeanFirst (a : Option Addr) (len cap : Nat) (z : List Int) (a1 : Option Addr) (len1 cap1 : Nat) (z1 : List Int) (w : World) (h : IsRow .u8 w a len cap z) (_ : IsRow .u8 w a1 len1 cap1 z1) :
    Calls Try.prog 8 #[.slice a len cap, .slice a1 len1 cap1] w fun e w' => e = .returned (.bool true) ∧ Below w.heap.size w w' := by
  have H := Lib.hid h; clear h
  by_cases hl : 1048576 < len
  · go_enter Try.func8, Try.ntmps8
    go_wp2_with fail
    go_ret
    exact ⟨rfl, Below.refl _ _⟩
  by_cases hl1 : 1048576 < len1
  · have d1 : decide ((1048576 : Int) < (len1 : Int)) = true := by simp; omega
    go_enter Try.func8, Try.ntmps8
    go_wp2_with fail
    go_ret
    exact ⟨rfl, Below.refl _ _⟩
  have d1 : decide ((1048576 : Int) < (len1 : Int)) = false := by simp; omega
  go_enter Try.func8, Try.ntmps8
  go_wp2_with fail
  refine (drawKeyMean _ _ _ _ _ H.out).mono ?_
  rintro e w1 ⟨v, t, us, n, rfl, ho, htl, hlens, hn1, hn2, hb⟩
  have HI := Lib.hid ho.ints
  have HM := Lib.hid (lensT_of htl hlens.out)
  obtain ⟨g, cp, rfl, hgb, hgs, hcp1, hcp2⟩ := ho.form
  clear ho hlens
  by_cases hk : rowsOk t ∧ 0 ≤ n ∧ n ≤ 40
  · have HD : Hid (kmean t n = 16 * n) := if_pos hk
    obtain ⟨hk0, k1, k2⟩ := hk
    have ht1 : 1 ≤ t.length := hk0.2.1
    obtain ⟨k, hkl, hke⟩ := mod_nat len1 t.length ht1
    have HD2 : Hid (kmean (t.take (1 + k)) n = 16 * n) := if_pos ⟨rowsOk_take hk0 (1 + k) (by omega) (by omega), k1, k2⟩
    have hke2 : (len1 : Int).tmod (t.length : Int) = (k : Int) := by rw [Int.tmod_eq_emod_of_nonneg (by omega)]; exact hke
    clear hk0
    go_wp2_with fail
    with_reducible refine (iKeyMean _ _ _ t n _ HI.out HM.out HD).mono ?_
    rintro e w' ⟨rfl, rfl⟩
    go_wp2_with fail
    with_reducible refine (sKeyMean _ _ _ t n _ HI.out HM.out HD).mono ?_
    rintro e w' ⟨rfl, rfl⟩
    have c2 : decide (16 * n < 0) = false := by simp; omega
    unfold maxLen at hcp2
    go_wp2_with fail
    with_reducible refine (iKeyMean _ _ _ (t.take (1 + k)) n _ (HI.out.take (1 + k) (by omega)) (lensT_take HM.out _) HD2).mono ?_
    rintro e w' ⟨rfl, rfl⟩
    go_wp2_with fail
    go_ret
    exact ⟨rfl, hb⟩
  · have HD := Lib.hid (kmean_out hk)
    clear hk
    go_wp2_with fail
    with_reducible refine (iKeyMean _ _ _ t n _ HI.out HM.out HD).mono ?_
    rintro e w' ⟨rfl, rfl⟩
    go_wp2_with fail
    with_reducible refine (sKeyMean _ _ _ t n _ HI.out HM.out HD).mono ?_
    rintro e w' ⟨rfl, rfl⟩
    go_wp2_with fail
    go_ret
    exact ⟨rfl, hb⟩

end Go.Proofs.Ytahnabijaoimfaa
