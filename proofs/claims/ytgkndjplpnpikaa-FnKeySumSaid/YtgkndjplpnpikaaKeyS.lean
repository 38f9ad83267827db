/- Contracts of KeySum, of the program and of the reference. -/
import Derived.Test.YtgkndjplpnpikaaInts
import Derived.Test.YtgkndjplpnpikaaIn
namespace Go.Proofs.Ytgkndjplpnpikaa
open Go.RowKit

theorem keyOk_bad {zs : List Int} {k : Nat} {z : Int} (hlt : k < zs.length) (hz : zs[k]?.getD 0 = z) (h : z < 0 ∨ 16 ≤ z) : ¬ keyOk zs := by
  intro hk
  have := hk.1 z (by rw [← hz, List.getElem?_eq_getElem hlt]; exact List.getElem_mem hlt)
  omega
theorem all_snoc {zs : List Int} {k : Nat} {z : Int} (hs : zs.take (k + 1) = zs.take k ++ [z]) (h : ∀ y ∈ zs.take k, 0 ≤ y ∧ y < 16) (hz : 0 ≤ z ∧ z < 16) : ∀ y ∈ zs.take (k + 1), 0 ≤ y ∧ y < 16 := by
  intro y hy
  rw [hs] at hy
  rcases List.mem_append.1 hy with h1 | h1
  · exact h y h1
  · simp at h1; subst h1; exact hz

/-- what KeySum returns -/
instance (zs : List Int) : Decidable (keyOk zs) := by unfold keyOk; infer_instance
def ksV (zs : List Int) : Value := if keyOk zs then .tuple #[.int .i64 (zs.sum % 16), .bool true] else .tuple #[.int .i64 0, .bool false]
theorem ksV_yes {zs : List Int} (h : keyOk zs) : ksV zs = .tuple #[.int .i64 (zs.sum % 16), .bool true] := if_pos h
theorem ksV_no {zs : List Int} (h : ¬ keyOk zs) : ksV zs = .tuple #[.int .i64 0, .bool false] := if_neg h

set_option maxHeartbeats 400000 in
theorem iKeySum (w : World) (P : Nat → Prop) (v : Value) (zs : List Int) (h : IntS w P v zs) (hl : zs.length ≤ 4611686018427387904) :
    Calls Try.prog 9 #[v] w fun e w' => e = .returned (ksV zs) ∧ w = w' := by
  have HH := Lib.hid h
  obtain ⟨a, cap, rfl, _, hr⟩ := h
  have HR := Lib.hid hr; clear hr
  go_enter Try.func9, Try.ntmps9
  go_wp2_with fail
  go_loop [5, 8] (fun _ i => ∃ k : Nat, k ≤ zs.length ∧ i = .int .i64 k ∧ ∀ y ∈ zs.take k, 0 ≤ y ∧ y < 16) (fun _ i => zs.length - (intOf i).toNat)
  case atStart => exact ⟨0, Nat.zero_le _, rfl, by simp⟩
  case round =>
    obtain ⟨k, hk, rfl, hall⟩ := hrel
    by_cases hlt : k < zs.length
    · obtain ⟨b, off, rfl, _, hc⟩ := HR.out k hlt
      have HS := take_snoc hlt
      obtain ⟨z, hz⟩ : ∃ z, zs[k]?.getD 0 = z := ⟨_, rfl⟩
      rw [hz] at hc HS
      by_cases h1 : z < 0
      · have HB := Lib.hid (keyOk_bad hlt hz (Or.inl h1))
        clear HS hall hz
        go_wp2_with fail
        go_ret2
        exact ⟨ret_v (ksV_no HB.out).symm, rfl⟩
      by_cases h2 : 16 ≤ z
      · have HB := Lib.hid (keyOk_bad hlt hz (Or.inr h2))
        clear HS hall hz
        go_wp2_with fail
        go_ret2
        exact ⟨ret_v (ksV_no HB.out).symm, rfl⟩
      have HA := Lib.hid (all_snoc HS hall ⟨by omega, by omega⟩)
      have d2 : decide (16 ≤ z) = false := by simp; omega
      clear HS hall hz
      go_wp2_with fail
      go_round
      case rel => exact ⟨k + 1, by omega, by go_num, HA.out⟩
      case measure => simp [intOf]; omega
    · have HA : Hid (∀ y ∈ zs, 0 ≤ y ∧ y < 16) := by rw [List.take_of_length_le (by omega)] at hall; exact hall
      clear hall
      by_cases h3 : 40 < zs.length
      · have HB : Hid (¬ keyOk zs) := fun hk => by have := hk.2; omega
        go_wp2_with fail
        go_ret2
        exact ⟨ret_v (ksV_no HB.out).symm, rfl⟩
      · have HT := Lib.hid (tot_eq_sum HA.out (by omega))
        have hs := sum_bd HA.out
        rw [← HT.out] at hs
        obtain ⟨s1, s2⟩ := hs
        have HV : Hid (ksV zs = .tuple #[.int .i64 (tot zs % 16), .bool true]) := by unfold Hid; rw [ksV_yes ⟨HA.out, by omega⟩, HT.out]
        go_wp2_with fail
        refine (iTotal _ P _ zs HH.out hl).mono ?_
        rintro e w' ⟨rfl, rfl⟩
        go_wp2_with fail
        go_ret2
        exact ⟨ret_v HV.out.symm, rfl⟩

set_option maxHeartbeats 400000 in
theorem sKeySum (w : World) (P : Nat → Prop) (v : Value) (zs : List Int) (h : IntS w P v zs) (hl : zs.length ≤ 4611686018427387904) :
    Calls Try.prog 7 #[v] w fun e w' => e = .returned (ksV zs) ∧ w = w' := by
  obtain ⟨a, cap, rfl, _, hr⟩ := h
  have HR := Lib.hid hr; clear hr
  go_enter Try.func7, Try.ntmps7
  go_wp2_with fail
  go_loop [4, 5] (fun s i => ∃ k : Nat, k ≤ zs.length ∧ k ≤ 40 ∧ i = .int .i64 k ∧ s = .int .i64 (zs.take k).sum ∧ ∀ y ∈ zs.take k, 0 ≤ y ∧ y < 16) (fun _ i => zs.length - (intOf i).toNat)
  case atStart => exact ⟨0, Nat.zero_le _, Nat.zero_le _, rfl, rfl, by simp⟩
  case round =>
    obtain ⟨k, hk, hk40, rfl, rfl, hall⟩ := hrel
    have hsb := sum_bd hall
    have hlen : (zs.take k).length = k := by simp; omega
    rw [hlen] at hsb
    obtain ⟨s1, s2⟩ := hsb
    clear hlen
    by_cases hlt : k < zs.length
    · obtain ⟨b, off, rfl, _, hc⟩ := HR.out k hlt
      have HS := take_snoc hlt
      obtain ⟨z, hz⟩ : ∃ z, zs[k]?.getD 0 = z := ⟨_, rfl⟩
      rw [hz] at hc HS
      by_cases h1 : z < 0 ∨ 15 < z
      · have HB := Lib.hid (keyOk_bad hlt hz (by omega))
        clear HS hall hz
        go_wp2_with fail
        with_reducible refine (sIn_f _ _ _ _ h1).mono ?_
        rintro e w' ⟨rfl, rfl⟩
        go_wp2_with fail
        go_ret2
        exact ⟨ret_v (ksV_no HB.out).symm, rfl⟩
      by_cases h2 : 40 ≤ k
      · have HB : Hid (¬ keyOk zs) := fun hk => by have := hk.2; omega
        have z1 : 0 ≤ z := by omega
        have z2 : z ≤ 15 := by omega
        have d2 : decide ((40 : Int) ≤ (k : Int)) = true := by simp; omega
        clear HS hall hz h1
        go_wp2_with fail
        with_reducible refine (sIn_t _ _ _ _ z1 z2).mono ?_
        rintro e w' ⟨rfl, rfl⟩
        go_wp2_with fail
        go_ret2
        exact ⟨ret_v (ksV_no HB.out).symm, rfl⟩
      have HA := Lib.hid (all_snoc HS hall ⟨by omega, by omega⟩)
      have HSS : Hid ((zs.take (k + 1)).sum = (zs.take k).sum + z) := by rw [HS]; exact sum_snoc _ _
      have d2 : decide ((40 : Int) ≤ (k : Int)) = false := by simp; omega
      have z1 : 0 ≤ z := by omega
      have z2 : z ≤ 15 := by omega
      clear HS hall hz h1
      go_wp2_with fail
      with_reducible refine (sIn_t _ _ _ _ z1 z2).mono ?_
      rintro e w' ⟨rfl, rfl⟩
      go_wp2_with fail
      go_round
      case rel => exact ⟨k + 1, by omega, by omega, by go_num, by rw [HSS.out], HA.out⟩
      case measure => simp [intOf]; omega
    · have HT : Hid (zs.take k = zs) := List.take_of_length_le (by omega)
      have HA : Hid (∀ y ∈ zs, 0 ≤ y ∧ y < 16) := by rw [HT.out] at hall; exact hall
      clear hall
      have HV : Hid (ksV zs = .tuple #[.int .i64 ((zs.take k).sum % 16), .bool true]) := by unfold Hid; rw [ksV_yes ⟨HA.out, by omega⟩, HT.out]
      go_wp2_with fail
      go_ret2
      exact ⟨ret_v HV.out.symm, rfl⟩

end Go.Proofs.Ytgkndjplpnpikaa
