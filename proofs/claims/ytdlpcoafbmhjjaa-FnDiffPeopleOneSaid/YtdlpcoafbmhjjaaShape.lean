/- Contracts: two lists of rows have the same sizes. -/
import Derived.Test.YtdlpcoafbmhjjaaMemT
import Derived.Test.YtdlpcoafbmhjjaaTabP
namespace Go.Proofs.Ytdlpcoafbmhjjaa
open Go.RowKit

/-- the same sizes -/
def same (a b : List (List Int)) : Prop := a.length = b.length ∧ ∀ i, i < a.length → wid a i = wid b i
instance (a b : List (List Int)) : Decidable (same a b) := by unfold same; infer_instance
theorem ret_b {a b : Bool} (h : a = b) : Ending.returned (.bool a) = .returned (.bool b) := by rw [h]

set_option maxHeartbeats 400000 in
theorem iLenEq (w : World) (a b : Option Addr) (n m c d : Nat) (_ : n ≤ 4611686018427387904) (_ : m ≤ 4611686018427387904) :
    Calls Try.prog 45 #[.slice a n c, .slice b m d] w fun e w' => e = .returned (.bool (decide (n = m))) ∧ w = w' := by
  by_cases h : n = m
  · have c1 : ((n : Int) == (m : Int)) = true := by simp; omega
    have d1 : Hid (decide (n = m) = true) := by simpa [Hid] using h
    clear h
    go_enter Try.func45, Try.ntmps45
    go_wp2_with fail
    go_ret
    exact ⟨ret_b d1.out.symm, rfl⟩
  · have c1 : ((n : Int) == (m : Int)) = false := by simp; omega
    have d1 : Hid (decide (n = m) = false) := by simpa [Hid] using h
    clear h
    go_enter Try.func45, Try.ntmps45
    go_wp2_with fail
    go_ret
    exact ⟨ret_b d1.out.symm, rfl⟩

/-- rows that are not longer than any machine bears -/
def lensT (t : List (List Int)) : Prop := t.length ≤ 4611686018427387904 ∧ ∀ i, wid t i ≤ 4611686018427387904
theorem RowsIn.rowW {w : World} {P : Nat → Prop} {a : Option Addr} {t : List (List Int)} (h : RowsIn w P a t) {i : Nat} (hi : i < t.length) :
    ∃ b off ai ci, a = some ⟨b, off, none⟩ ∧ P b ∧ w.cell? ⟨b, off + i, none⟩ = some (.slice ai (wid t i) ci) ∧ RowIn w P ai (t[i]?.getD []) := by
  obtain ⟨b, off, ai, ci, ha, hb, hc, hl, hr⟩ := h i hi
  exact ⟨b, off, ai, ci, ha, hb, hc, hr⟩

set_option maxHeartbeats 400000 in
theorem iEqualFunc (w : World) (P Q : Nat → Prop) (va vb : Value) (a b : List (List Int)) (ha : IntSS w P va a) (hb : IntSS w Q vb b) (la : lensT a) (lb : lensT b) :
    Calls Try.prog 44 #[va, vb, .func (.func 45) #[] #[]] w fun e w' => e = .returned (.bool (decide (same a b))) ∧ w = w' := by
  obtain ⟨xa, ca, rfl, _, ra⟩ := ha
  obtain ⟨xb, cb, rfl, _, rb⟩ := hb
  have RA := Lib.hid ra; clear ra
  have RB := Lib.hid rb; clear rb
  have la1 := la.1
  have lb1 := lb.1
  have LA := Lib.hid la.2
  have LB := Lib.hid lb.2
  clear la lb
  by_cases hl : a.length = b.length
  · have c1 : ((a.length : Int) != (b.length : Int)) = false := by simp; omega
    have HL := Lib.hid hl
    clear hl
    go_enter Try.func44, Try.ntmps44
    go_wp2_with fail
    go_loop [17] (fun i => ∃ k : Nat, k ≤ a.length ∧ i = .int .i64 k ∧ Hid (∀ j, j < k → wid a j = wid b j)) (fun i => a.length - (intOf i).toNat)
    case atStart => exact ⟨0, Nat.zero_le _, rfl, fun j hj => by omega⟩
    case round =>
      obtain ⟨k, hk, rfl, hall⟩ := hrel
      by_cases hlt : k < a.length
      · obtain ⟨b1, o1, a1, c1, rfl, _, hc1, _⟩ := RA.out.rowW hlt
        obtain ⟨b2, o2, a2, c2, rfl, _, hc2, _⟩ := RB.out.rowW (i := k) (by have := HL.out; omega)
        have hkb : (k : Int) < (b.length : Int) := by have := HL.out; omega
        have l1 := LA.out k
        have l2 := LB.out k
        by_cases e : wid a k = wid b k
        · have HN : Hid (∀ j, j < k + 1 → wid a j = wid b j) := by
            intro j hj
            by_cases ej : j = k
            · subst ej; exact e
            · exact hall.out j (by omega)
          have D : Hid (decide (wid a k = wid b k) = true) := by simpa [Hid] using e
          clear e
          go_wp2_with fail
          with_reducible refine (iLenEq _ _ _ _ _ _ _ l1 l2).mono ?_
          rintro e w' ⟨rfl, rfl⟩
          rw [D.out]
          go_wp2_with fail
          go_round
          case rel => exact ⟨k + 1, by omega, by go_num, HN⟩
          case measure => simp [intOf]; omega
        · have D : Hid (decide (wid a k = wid b k) = false) := by simpa [Hid] using e
          have HB : Hid (¬ same a b) := fun hh => e (hh.2 k hlt)
          clear e
          go_wp2_with fail
          with_reducible refine (iLenEq _ _ _ _ _ _ _ l1 l2).mono ?_
          rintro e w' ⟨rfl, rfl⟩
          rw [D.out]
          go_wp2_with fail
          go_ret
          exact ⟨ret_b (by simp [HB.out]), rfl⟩
      · have HB : Hid (same a b) := ⟨HL.out, fun i hi => hall.out i (by omega)⟩
        go_wp2_with fail
        go_ret
        exact ⟨ret_b (by simp [HB.out]), rfl⟩
  · have c1 : ((a.length : Int) != (b.length : Int)) = true := by simp; omega
    have HB : Hid (¬ same a b) := fun hh => hl hh.1
    clear hl
    go_enter Try.func44, Try.ntmps44
    go_wp2_with fail
    go_ret
    exact ⟨ret_b (by simp [HB.out]), rfl⟩

set_option maxHeartbeats 400000 in
theorem iSame (w : World) (P Q : Nat → Prop) (va vb : Value) (a b : List (List Int)) (ha : IntSS w P va a) (hb : IntSS w Q vb b) (la : lensT a) (lb : lensT b) :
    Calls Try.prog 33 #[va, vb] w fun e w' => e = .returned (.bool (decide (same a b))) ∧ w = w' := by
  have HA := Lib.hid ha
  have HB := Lib.hid hb
  have LA := Lib.hid la
  have LB := Lib.hid lb
  obtain ⟨xa, ca, rfl, _, _⟩ := ha
  obtain ⟨xb, cb, rfl, _, _⟩ := hb
  clear la lb
  go_enter Try.func33, Try.ntmps33
  go_wp2_with fail
  with_reducible refine (iEqualFunc _ _ _ _ _ a b HA.out HB.out LA.out LB.out).mono ?_
  rintro e w' ⟨rfl, rfl⟩
  go_wp2_with fail
  go_ret
  exact ⟨rfl, rfl⟩

end Go.Proofs.Ytdlpcoafbmhjjaa
