/- Contracts: the reference's test of near sums. -/
import Derived.Test.YtigdgcpjkeaooaaSpecS
import Derived.Test.YtigdgcpjkeaooaaFits
namespace Go.Proofs.Ytigdgcpjkeaooaa
open Go.RowKit

theorem sumsL_len (t : List (List Int)) : (sumsL t).length = t.length + wid t 0 + 1 := accL_len _ _
theorem sumsL_row {t : List (List Int)} (ht : rectS t) {i : Nat} (hi : i < t.length) : (sumsL t)[i]?.getD 0 = S (wid t 0) (cel t i) := by
  unfold sumsL cellsN
  rw [accL_at (by omega)]; unfold accAt; rw [if_pos hi, accR_to, if_pos hi, (ht.2.2.2.2 i hi).1]
theorem sumsL_col {t : List (List Int)} (ht : rectS t) {j : Nat} (hj : j < wid t 0) : (sumsL t)[t.length + j]?.getD 0 = S t.length (fun i => cel t i j) := by
  unfold sumsL cellsN
  rw [accL_at (by omega)]; unfold accAt; rw [if_neg (by omega), if_pos (by omega), show t.length + j - t.length = j by omega]
  exact accC_to t t.length j (fun i hi => by rw [(ht.2.2.2.2 i hi).1]; exact hj)
theorem sumsL_tot {t : List (List Int)} (ht : rectS t) : (sumsL t)[t.length + wid t 0]?.getD 0 = totalT t := by
  unfold sumsL cellsN
  rw [accL_at (by omega)]; unfold accAt; rw [if_neg (by omega), if_neg (by omega), accT_to]
  unfold totalT
  exact S_congr (fun i hi => by rw [(ht.2.2.2.2 i hi).1])
theorem near_sums {t x : List (List Int)} {b : Int} (ht : rectS t) (hx : rectS x) (hs : same t x) : nearL (sumsL t) (sumsL x) b ↔ sumsFit t x b := by
  have hw : wid x 0 = wid t 0 := (hs.2 0 (by have := ht.1; omega)).symm
  have hl := hs.1
  unfold nearL
  rw [sumsL_len]
  constructor
  · intro h
    refine ⟨fun i hi => ?_, fun j hj => ?_, ?_⟩
    · have := h i (by omega)
      rwa [sumsL_row ht hi, sumsL_row hx (by omega), hw] at this
    · have := h (t.length + j) (by omega)
      rw [sumsL_col ht hj] at this
      rw [hl, sumsL_col hx (by omega)] at this
      rw [hl]; exact this
    · have := h (t.length + wid t 0) (by omega)
      rw [sumsL_tot ht] at this
      rw [hl, ← hw, sumsL_tot hx] at this
      exact this
  · rintro ⟨h1, h2, h3⟩ k hk
    by_cases e1 : k < t.length
    · rw [sumsL_row ht e1, sumsL_row hx (by omega), hw]; exact h1 k e1
    · by_cases e2 : k < t.length + wid t 0
      · obtain ⟨j, rfl⟩ : ∃ j, k = t.length + j := ⟨k - t.length, by omega⟩
        have := h2 j (by omega)
        rw [sumsL_col ht (by omega)]
        rw [hl, sumsL_col hx (by omega)]
        rw [hl] at this; exact this
      · obtain rfl : k = t.length + wid t 0 := by omega
        rw [sumsL_tot ht, hl, ← hw, sumsL_tot hx]; exact h3
theorem sums_bd {t : List (List Int)} (ht : rectS t) (k : Nat) : -100000 ≤ (sumsL t)[k]?.getD 0 ∧ (sumsL t)[k]?.getD 0 ≤ 100000 := by
  have hb : ∀ p ∈ cellsN t, 0 ≤ cel t p.1 p.2 ∧ cel t p.1 p.2 ≤ 1000 := by
    intro p hp
    unfold cellsN cellsTo at hp
    obtain ⟨r, hr, hp⟩ := List.mem_flatten.1 hp
    obtain ⟨i, hi, rfl⟩ := List.mem_map.1 hr
    obtain ⟨j, hj, rfl⟩ := List.mem_map.1 hp
    have hi' : i < t.length := List.mem_range.1 hi
    exact (ht.2.2.2.2 i hi').2 j (by rw [← (ht.2.2.2.2 i hi').1]; exact List.mem_range.1 hj)
  have h16 := cellsN_le (t := t) ht.2.1 (fun i hi => by rw [(ht.2.2.2.2 i hi).1]; exact ht.2.2.2.1)
  by_cases h : k < t.length + wid t 0 + 1
  · unfold sumsL
    rw [accL_at h]; unfold accAt
    have a := accR_bd (i := k) hb
    have b := accC_bd (j := k - t.length) hb
    have c := accT_bd hb
    split
    · omega
    · split <;> omega
  · rw [List.getElem?_eq_none (by rw [sumsL_len]; omega)]; simp

set_option maxRecDepth 100000 in
set_option maxHeartbeats 2000000 in
theorem sNear (w : World) (P Q : Nat → Prop) (vt vx : Value) (t x : List (List Int)) (b : Int) (h : IntSS w P vt t) (h2 : IntSS w Q vx x) (ht : rectS t) (hx : rectS x) (hs : same t x) (hb : 2 ≤ b) (hb2 : b ≤ 20) :
    Calls Try.prog 30 #[vt, vx, .int .i64 b] w fun e w' => e = .returned (.bool (decide (sumsFit t x b))) ∧ Below w.heap.size w w' := by
  have HT := Lib.hid h
  have HX := Lib.hid h2
  have RT := Lib.hid ht
  have RX := Lib.hid hx
  have HNE := Lib.hid (near_sums (b := b) ht hx hs)
  have hN : x.length + wid x 0 + 1 = t.length + wid t 0 + 1 := by rw [← hs.1, hs.2 0 (by have := ht.1; omega)]
  have hlen : t.length + wid t 0 + 1 ≤ 9 := by have := ht.2.1; have := ht.2.2.2.1; omega
  have LT := Lib.hid (sumsL_len t)
  have LX := Lib.hid (sumsL_len x)
  have BT := Lib.hid (sums_bd ht)
  have BX := Lib.hid (sums_bd hx)
  obtain ⟨a, cap, rfl, _, _⟩ := h
  obtain ⟨ax, capx, rfl, _, _⟩ := h2
  clear ht hx hs
  unfold nearL at HNE
  go_enter Try.func30, Try.ntmps30
  go_wp2_with fail
  with_reducible refine (sSums _ P _ t HT.out RT.out).mono ?_
  rintro e w1 ⟨g1, c1, rfl, o1, b1⟩
  go_wp2_with fail
  with_reducible refine (sSums _ Q _ x (HX.out.below b1) RX.out).mono ?_
  rintro e w2 ⟨g2, c2, rfl, o2, b2⟩
  have O1 := Lib.hid (o1.ints.below b2)
  have O2 := Lib.hid o2.ints
  have BB := Lib.hid (b1.trans (b2.mono b1.size))
  clear o1 o2 b1 b2
  rw [hN] at O2 LX ⊢
  rw [LT.out] at HNE
  obtain ⟨N, hNN⟩ : ∃ N, t.length + wid t 0 + 1 = N := ⟨_, rfl⟩
  rw [hNN] at O1 O2 LT LX HNE hlen ⊢
  clear hN hNN HT HX RT RX
  generalize sumsL t = A at *
  generalize sumsL x = B at *
  obtain ⟨a1, k1, e1, _, r1⟩ := O1.out
  simp only [Value.slice.injEq] at e1
  obtain ⟨rfl, _, rfl⟩ := e1
  obtain ⟨a2, k2, e2, _, r2⟩ := O2.out
  simp only [Value.slice.injEq] at e2
  obtain ⟨rfl, _, rfl⟩ := e2
  have R1 := Lib.hid r1
  have R2 := Lib.hid r2
  clear O1 O2 r1 r2
  go_wp2_with fail
  go_loopw [9] (fun i wr => ∃ (k n : Nat), k ≤ N ∧ i = .int .i64 k ∧ Hid (∀ j, j < k → nr b (A[j]?.getD 0) (B[j]?.getD 0)) ∧ wr = w2.drewN n) (fun i _ => N - (intOf i).toNat)
  case atStart => exact ⟨0, 0, Nat.zero_le _, rfl, fun j hj => by omega, rfl⟩
  case round =>
    obtain ⟨k, n, hk, rfl, hall, rfl⟩ := hrel
    by_cases hlt : k < N
    · obtain ⟨y1, p1, hy1, _, hc1⟩ := R1.out k (by rw [LT.out]; exact hlt)
      cases hy1
      obtain ⟨y2, p2, hy2, _, hc2⟩ := R2.out k (by rw [LX.out]; exact hlt)
      cases hy2
      rw [Nat.zero_add] at hc1 hc2
      have ba := BT.out k
      have bb := BX.out k
      have kN : (k : Int) < (N : Int) := by omega
      have HAL : nr b (A[k]?.getD 0) (B[k]?.getD 0) → Hid (∀ j, j < k + 1 → nr b (A[j]?.getD 0) (B[j]?.getD 0)) := by
        intro h j hj
        by_cases e : j = k
        · subst e; exact h
        · exact hall.out j (by omega)
      have HNO : ¬ nr b (A[k]?.getD 0) (B[k]?.getD 0) → Hid (¬ sumsFit t x b) := fun h hf => h (HNE.out.2 hf k hlt)
      generalize A[k]?.getD 0 = y at *
      generalize B[k]?.getD 0 = z at *
      by_cases hn : nr b y z
      · have HA := HAL hn
        obtain ⟨n1, n2⟩ := hn
        clear HAL HNO
        by_cases hc : z - y ≤ y - z
        · have e1 : decide (b ≤ y - z) = false := by simp; omega
          go_wp2_with fail
          go_quiet (fail)
          go_wp2_with fail
          go_roundw
          case rel => exact ⟨k + 1, _, by omega, by go_num, HA, rfl⟩
          case measure => simp [intOf]; omega
        · have hc' : y - z < z - y := by omega
          have e1 : decide (b ≤ z - y) = false := by simp; omega
          clear hc
          go_wp2_with fail
          go_quiet (fail)
          go_wp2_with fail
          go_roundw
          case rel => exact ⟨k + 1, _, by omega, by go_num, HA, rfl⟩
          case measure => simp [intOf]; omega
      · have HA := HNO hn
        have hn2 : b ≤ y - z ∨ b ≤ z - y := by unfold nr at hn; omega
        clear HAL HNO hn
        by_cases hc : z - y ≤ y - z
        · have e1 : decide (b ≤ y - z) = true := by simp; omega
          clear hn2
          go_wp2_with fail
          go_quiet (fail)
          go_wp2_with fail
          go_ret
          exact ⟨ret_b (by simp [HA.out]), below_drewN (below_drewN BB.out n) nq⟩
        · have hc' : y - z < z - y := by omega
          have e1 : decide (b ≤ z - y) = true := by simp; omega
          clear hc hn2
          go_wp2_with fail
          go_quiet (fail)
          go_wp2_with fail
          go_ret
          exact ⟨ret_b (by simp [HA.out]), below_drewN (below_drewN BB.out n) nq⟩
    · have HE : Hid (sumsFit t x b) := HNE.out.1 (fun k hk => hall.out k (by omega))
      go_wp2_with fail
      go_ret
      exact ⟨ret_b (by simp [HE.out]), below_drewN BB.out n⟩

end Go.Proofs.Ytigdgcpjkeaooaa
