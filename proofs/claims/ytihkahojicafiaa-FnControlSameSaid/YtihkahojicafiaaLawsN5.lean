/- The walk of the law: multiples stay. (Printed by wip/tools/mkR8.py.) -/
import Derived.Test.YtihkahojicafiaaRoundA
namespace Go.Proofs.Ytihkahojicafiaa
open Go.RowKit

/-- the cells ahead of a place are multiples -/
def mulTo (t : List (List Int)) (b : Int) (k q : Nat) : Prop := ∀ i j, i < t.length → j < wid t 0 → (i < k ∨ (i = k ∧ j < q)) → cel t i j % b = 0
theorem fits_mult {t x : List (List Int)} {b : Int} (h : Fits t x b) (hm : ∀ i j, i < t.length → j < wid t 0 → cel t i j % b = 0) : x = t := by
  refine (tab_ext h.2.2.1 (fun i j hi hj => ?_)).symm
  rw [(h.1.2.2.2.2 i hi).1] at hj
  have h1 := hm i j hi hj
  have h2 := h.2.2.2.1 i hi j hj
  unfold cOk dn at h2
  rcases h2 with h2 | ⟨_, h2⟩ <;> omega
theorem dvd_mod {c b : Int} (h : b ∣ c) : c % b = 0 := Int.emod_eq_zero_of_dvd h
theorem fits_is {t x : List (List Int)} {b : Int} (h : Fits t x b) : ∀ i j, i < x.length → j < wid x 0 → cel x i j % b = 0 := by
  intro i j hi hj
  have hs := h.2.2.1
  have h0 : 0 < t.length := h.1.1
  rw [← hs.1] at hi
  rw [← hs.2 0 h0] at hj
  have h2 := h.2.2.2.1 i hi j hj
  have hd : b ∣ dn b (cel t i j) := by unfold dn; exact ⟨cel t i j / b, by have := Int.emod_add_mul_ediv (cel t i j) b; omega⟩
  rcases h2 with h2 | ⟨h2, _⟩
  · rw [h2]; exact dvd_mod hd
  · rw [h2]; exact dvd_mod (Int.dvd_add hd ⟨1, by omega⟩)

set_option maxRecDepth 100000 in
set_option maxHeartbeats 4000000 in
theorem wFnControlSame (a : Option Addr) (len cap : Nat) (z : List Int) (w : World) (h : IsRow .u8 w a len cap z) :
    Calls Try.prog 8 #[.slice a len cap] w fun e w' => e = .returned (.bool true) ∧ Below w.heap.size w w' := by
  have H := Lib.hid h; clear h
  by_cases hl : 1048576 < len
  · go_enter Try.func8, Try.ntmps8
    go_wp2_with fail
    go_ret
    exact ⟨rfl, Below.refl _ _⟩
  go_enter Try.func8, Try.ntmps8
  go_wp2_with fail
  refine (drawControlRound _ _ _ _ _ H.out).mono ?_
  rintro e w1 ⟨g, cp, t, us, b, rfl, ho, hd, hb1, hb2, bl1⟩
  have LD := Lib.hid (lensD hd.out)
  have HB1 := Lib.hid bl1
  clear bl1 hl
  go_wp2_with fail
  with_reducible refine (iControlRound _ _ _ t b ho.out.ints LD.out).mono ?_
  rintro e w2 ⟨bl2, hI⟩
  have HO2 := Lib.hid (ho.out.below bl2)
  have HB2 := Lib.hid (HB1.out.trans (bl2.mono HB1.out.size))
  rcases hI with ⟨hn, rfl⟩ | ⟨hs, gy, cy, uy, rfl, hy⟩
  · go_wp2_with fail
    with_reducible refine (sControlRound _ _ _ t b HO2.out.ints LD.out).mono ?_
    rintro e w3 ⟨bl3, hS⟩
    rcases hS with ⟨_, g3, rfl, o3⟩ | ⟨hs, _⟩
    rotate_left
    · exact absurd hs hn
    have HB3 := Lib.hid (HB2.out.trans (bl3.mono HB2.out.size))
    have HO3 := Lib.hid (HO2.out.below bl3)
    have HN := Lib.hid hn
    have O3 := Lib.hid o3
    clear o3 bl2 bl3 ho hn
    go_wp2_with fail
    with_reducible refine (same_c _ (nilSS _) (O3.out).ints lens_nil).mono ?_
    rintro e w' ⟨rfl, n3, rfl⟩
    go_wp2_with fail
    with_reducible refine (same_c _ (nilSS _) (O3.out.drewN n3).ints lens_nil).mono ?_
    rintro e w' ⟨rfl, n4, rfl⟩
    go_wp2_with fail
    go_ret
    exact ⟨rfl, below_drewN HB3.out _⟩
  · go_wp2_with fail
    with_reducible refine (sControlRound _ _ _ t b HO2.out.ints LD.out).mono ?_
    rintro e w3 ⟨bl3, hS⟩
    rcases hS with ⟨hn, _⟩ | ⟨_, g3, c3, u3, rfl, o3⟩
    · exact absurd hs hn
    have HB3 := Lib.hid (HB2.out.trans (bl3.mono HB2.out.size))
    have HO3 := Lib.hid (HO2.out.below bl3)
    have HY3 := Lib.hid (hy.below bl3)
    have HSM := Lib.hid hs
    have HF := Lib.hid (near_fits hs.1 hs.2.2.1 hs.2.2.2)
    have HLY : Hid (t.length = (nearR t b).length) := HF.out.2.2.1.1
    have LY := Lib.hid (lens_same hs.1 HF.out.2.2.1)
    have HLE : Hid (∀ y, Fits t y b → farOf t (nearR t b) ≤ farOf t y) := fun y hf => near_le HSM.out.2.2.1 HSM.out.2.2.2 hf
    obtain ⟨Y, hY⟩ : ∃ Y, nearR t b = Y := ⟨_, rfl⟩
    rw [hY] at HY3 o3 HF HLY LY HLE
    have HNY := Lib.hid hY
    have O3 := Lib.hid o3
    clear o3 bl2 bl3 ho hs hY hy
    go_wp2_with fail
    with_reducible refine (same_c _ HY3.out.ints O3.out.ints LY.out).mono ?_
    rintro e w' ⟨rfl, n3, rfl⟩
    have HB4 := Lib.hid (below_drewN HB3.out n3)
    have HO4 := Lib.hid (HO3.out.drewN n3)
    have HY4 := Lib.hid (HY3.out.drewN n3)
    clear HO2 HB2 HO3 HY3 O3 HB3 HB1
    generalize w3.drewN n3 = w4 at *
    go_wp2_with fail
    have HTK := Lib.hid HSM.out.1
    have hlt := HSM.out.1.2.1
    have hl0 : 1 ≤ t.length := HSM.out.1.1
    have hw0 : 1 ≤ wid t 0 := HSM.out.1.2.2.1
    have hw4 : wid t 0 ≤ 4 := HSM.out.1.2.2.2.1
    have hbb : 2 ≤ b := HSM.out.2.2.1
    have hb20 : b ≤ 20 := HSM.out.2.2.2
    have hbz : b ≠ 0 := by omega
    go_wp2_with fail
    go_loop [9, 10] (fun s i => ∃ (k : Nat) (d : Bool), k ≤ t.length ∧ i = .int .i64 k ∧ s = .bool d ∧ Hid (d = true → mulTo t b k 0)) (fun _ i => t.length - (intOf i).toNat)
    case atStart => exact ⟨0, true, Nat.zero_le _, rfl, rfl, fun _ i j _ _ h => by omega⟩
    case round =>
      obtain ⟨k, d, hk, rfl, rfl, hM⟩ := hrel
      by_cases hlt2 : k < t.length
      · have hwk : wid t k = wid t 0 := (HTK.out.2.2.2.2 k hlt2).1
        obtain ⟨gk, ck, hu, hrow, _, _, _, _, _, _⟩ := HO4.out.rowW hlt2
        rw [hwk] at hrow
        have HU := Lib.hid hu
        have ki : (k : Int) < (t.length : Int) := by omega
        have HWK := Lib.hid hwk
        clear hwk hu
        go_wp2_with fail
        go_loop [9, 11] (fun s j => ∃ (q : Nat) (d : Bool), q ≤ wid t 0 ∧ j = .int .i64 q ∧ s = .bool d ∧ Hid (d = true → mulTo t b k q)) (fun _ j => wid t 0 - (intOf j).toNat)
        case atStart => exact ⟨0, d, Nat.zero_le _, rfl, rfl, hM⟩
        case round =>
          clear hM
          obtain ⟨q, d, hq, rfl, rfl, hM⟩ := hrel
          by_cases hqlt : q < wid t 0
          · cases d with
            | false =>
              obtain ⟨hct, _⟩ := HO4.out.at hlt2 HU.out (j := q) (by have := HWK.out; unfold wid at this hqlt; omega)
              change w4.cell? ⟨gk, q, none⟩ = some (.int .i64 (cel t k q)) at hct
              obtain ⟨c, hce⟩ : ∃ c, cel t k q = c := ⟨_, rfl⟩
              have hcb : 0 ≤ c ∧ c ≤ 99 := by rw [← hce]; exact (HTK.out.2.2.2.2 k hlt2).2 q hqlt
              obtain ⟨r, hre⟩ : ∃ r, c % b = r := ⟨_, rfl⟩
              have mm : c.tmod b = r := by rw [Int.tmod_eq_emod_of_nonneg hcb.1]; exact hre
              rw [hce] at hct
              have qi : (q : Int) < (wid t 0 : Int) := by omega
              clear hM hce hre
              go_wp2_with fail
              go_round
              case rel => exact ⟨q + 1, false, by omega, by go_num, rfl, fun h => by cases h⟩
              case measure => simp [intOf]; omega
            | true =>
              obtain ⟨hct, _⟩ := HO4.out.at hlt2 HU.out (j := q) (by have := HWK.out; unfold wid at this hqlt; omega)
              change w4.cell? ⟨gk, q, none⟩ = some (.int .i64 (cel t k q)) at hct
              obtain ⟨c, hce⟩ : ∃ c, cel t k q = c := ⟨_, rfl⟩
              have hcb : 0 ≤ c ∧ c ≤ 99 := by rw [← hce]; exact (HTK.out.2.2.2.2 k hlt2).2 q hqlt
              obtain ⟨r, hre⟩ : ∃ r, c % b = r := ⟨_, rfl⟩
              have mm : c.tmod b = r := by rw [Int.tmod_eq_emod_of_nonneg hcb.1]; exact hre
              rw [hce] at hct
              have qi : (q : Int) < (wid t 0 : Int) := by omega
              by_cases hr0 : r = 0
              · have cr : (r == 0) = true := by simp [hr0]
                have HN : Hid (true = true → mulTo t b k (q + 1)) := fun _ i j hi hj hij => by
                  by_cases e : i = k ∧ j = q
                  · rw [e.1, e.2, hce, hre]; exact hr0
                  · exact hM.out rfl i j hi hj (by omega)
                clear hM hce hre hr0
                go_wp2_with fail
                go_round
                case rel => exact ⟨q + 1, true, by omega, by go_num, rfl, HN⟩
                case measure => simp [intOf]; omega
              · have cr : (r == 0) = false := by simp [hr0]
                clear hM hce hre hr0
                go_wp2_with fail
                go_round
                case rel => exact ⟨q + 1, false, by omega, by go_num, rfl, fun h => by cases h⟩
                case measure => simp [intOf]; omega
          · have HN : Hid (d = true → mulTo t b (k + 1) 0) := fun hd i j hi hj hij => hM.out hd i j hi hj (by omega)
            clear hM
            go_wp2_with fail
            go_round
            case rel => exact ⟨k + 1, d, by omega, by go_num, rfl, HN⟩
            case measure => simp [intOf]; omega
      · have HY1 : Hid (d = true → Y = t) := fun hd => fits_mult HF.out (fun i j hi hj => hM.out hd i j hi hj (by omega))
        clear hM
        go_wp2_with fail
        with_reducible refine (iControlRound _ _ _ Y b HY4.out.ints LY.out).mono ?_
        rintro e w5 ⟨bl5, ⟨hno, rfl⟩ | ⟨hsy, gz, cz, uz, rfl, hz⟩⟩
        · have HO5 := Lib.hid (HO4.out.below bl5)
          have HY5 := Lib.hid (HY4.out.below bl5)
          have HB5 := Lib.hid (HB4.out.trans (bl5.mono HB4.out.size))
          clear bl5
          cases d with
          | false =>
            go_wp2_with fail
            go_ret
            exact ⟨rfl, HB5.out⟩
          | true =>
            go_wp2_with fail
            with_reducible refine (lSameRows _ _ _ _ _ Y t HY5.out.ints HO5.out.ints LY.out LD.out).mono ?_
            rintro e w' ⟨rfl, n5, rfl⟩
            rw [decide_eq_true (HY1.out (by trivial))]
            go_wp2_with fail
            go_ret
            exact ⟨rfl, below_drewN HB5.out _⟩
        · have HO5 := Lib.hid (HO4.out.below bl5)
          have HY5 := Lib.hid (HY4.out.below bl5)
          have HB5 := Lib.hid (HB4.out.trans (bl5.mono HB4.out.size))
          have HZ5 := Lib.hid hz
          have hfy := near_fits hsy.1 hsy.2.2.1 hsy.2.2.2
          have LZ := Lib.hid (lens_same hsy.1 hfy.2.2.1)
          have HZY : Hid (nearR Y b = Y) := fits_mult hfy (fits_is HF.out)
          clear bl5 hz hfy
          cases d with
          | false =>
            go_wp2_with fail
            with_reducible refine (lSameRows _ _ _ _ _ (nearR Y b) Y HZ5.out.ints HY5.out.ints LZ.out LY.out).mono ?_
            rintro e w' ⟨rfl, n5, rfl⟩
            rw [decide_eq_true HZY.out]
            go_wp2_with fail
            go_ret
            exact ⟨rfl, below_drewN HB5.out _⟩
          | true =>
            go_wp2_with fail
            with_reducible refine (lSameRows _ _ _ _ _ Y t HY5.out.ints HO5.out.ints LY.out LD.out).mono ?_
            rintro e w' ⟨rfl, n5, rfl⟩
            rw [decide_eq_true (HY1.out (by trivial))]
            go_wp2_with fail
            with_reducible refine (lSameRows _ _ _ _ _ (nearR Y b) Y (HZ5.out.drewN n5).ints (HY5.out.drewN n5).ints LZ.out LY.out).mono ?_
            rintro e w' ⟨rfl, n6, rfl⟩
            rw [decide_eq_true HZY.out]
            go_wp2_with fail
            go_ret
            exact ⟨rfl, below_drewN HB5.out _⟩

end Go.Proofs.Ytihkahojicafiaa
