/- Contract of near. -/
import Derived.Test.YtigdgcpjkeaooaaFitP
import Derived.Test.YtigdgcpjkeaooaaMem
namespace Go.Proofs.Ytigdgcpjkeaooaa
open Go.RowKit

set_option maxHeartbeats 400000 in
theorem iNear (w : World) (P Q : Nat → Prop) (va vb : Value) (a b : List Int) (base : Int) (ha : IntS w P va a) (hb : IntS w Q vb b) (hl : a.length = b.length) (hl2 : a.length ≤ 1000) (sa : ∀ k, k < a.length → -1000000 ≤ a[k]?.getD 0 ∧ a[k]?.getD 0 ≤ 1000000) (sb : ∀ k, k < a.length → -1000000 ≤ b[k]?.getD 0 ∧ b[k]?.getD 0 ≤ 1000000) :
    Calls Try.prog 25 #[va, vb, .int .i64 base] w fun e w' => e = .returned (.bool (decide (nearL a b base))) ∧ w = w' := by
  obtain ⟨xa, ca, rfl, _, ra⟩ := ha
  obtain ⟨xb, cb, rfl, _, rb⟩ := hb
  have RA := Lib.hid ra
  have RB := Lib.hid rb
  have SA := Lib.hid sa
  have SB := Lib.hid sb
  have HL := Lib.hid hl
  clear ra rb sa sb hl
  go_enter Try.func25, Try.ntmps25
  go_wp2_with fail
  go_loop [12] (fun i => ∃ k : Nat, k ≤ a.length ∧ i = .int .i64 k ∧ Hid (∀ j, j < k → nr base (a[j]?.getD 0) (b[j]?.getD 0))) (fun i => a.length - (intOf i).toNat)
  case atStart => exact ⟨0, Nat.zero_le _, rfl, fun j hj => by omega⟩
  case round =>
    obtain ⟨k, hk, rfl, hall⟩ := hrel
    by_cases hlt : k < a.length
    · obtain ⟨b1, o1, rfl, _, hc1⟩ := RA.out k hlt
      obtain ⟨b2, o2, rfl, _, hc2⟩ := RB.out k (by have := HL.out; omega)
      obtain ⟨s1, s2⟩ := SA.out k hlt
      obtain ⟨s3, s4⟩ := SB.out k hlt
      have hkb : (k : Int) < (b.length : Int) := by have := HL.out; omega
      by_cases hn : nr base (a[k]?.getD 0) (b[k]?.getD 0)
      · have HN : Hid (∀ j, j < k + 1 → nr base (a[j]?.getD 0) (b[j]?.getD 0)) := by
          intro j hj
          by_cases ej : j = k
          · subst ej; exact hn
          · exact hall.out j (by omega)
        obtain ⟨n1, n2⟩ := hn
        clear hall
        generalize a[k]?.getD 0 = za at *
        generalize b[k]?.getD 0 = zb at *
        by_cases hc : -(za - zb) ≤ za - zb
        · have d1 : decide (base ≤ za - zb) = false := by simp; omega
          go_wp2_with fail
          go_round
          case rel => exact ⟨k + 1, by omega, by go_num, HN⟩
          case measure => simp [intOf]; omega
        · have d1 : decide (base ≤ -(za - zb)) = false := by simp; omega
          have hc' : za - zb < -(za - zb) := by omega
          go_wp2_with fail
          go_round
          case rel => exact ⟨k + 1, by omega, by go_num, HN⟩
          case measure => simp [intOf]; omega
      · have D : Hid (¬ nearL a b base) := fun hh => hn (hh k hlt)
        have hn2 : base ≤ a[k]?.getD 0 - b[k]?.getD 0 ∨ base ≤ b[k]?.getD 0 - a[k]?.getD 0 := by unfold nr at hn; omega
        clear hall hn
        generalize a[k]?.getD 0 = za at *
        generalize b[k]?.getD 0 = zb at *
        by_cases hc : -(za - zb) ≤ za - zb
        · have d1 : base ≤ za - zb := by omega
          clear hn2
          go_wp2_with fail
          go_ret
          exact ⟨ret_b (by simp [D.out]), rfl⟩
        · have d1 : base ≤ -(za - zb) := by omega
          have hc' : za - zb < -(za - zb) := by omega
          clear hn2
          go_wp2_with fail
          go_ret
          exact ⟨ret_b (by simp [D.out]), rfl⟩
    · have D : Hid (nearL a b base) := fun j hj => hall.out j (by omega)
      go_wp2_with fail
      go_ret
      exact ⟨ret_b (by simp [D.out]), rfl⟩

end Go.Proofs.Ytigdgcpjkeaooaa
