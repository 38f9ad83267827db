/- The walk of the law: a table of zeros stays. (Printed by wip/tools/mkR8.py.) -/
import Derived.Test.YtihkahojicafiaaRoundA
namespace Go.Proofs.Ytihkahojicafiaa
open Go.RowKit

theorem row_ext {a b : List Int} (hl : a.length = b.length) (h : ∀ j, j < a.length → a[j]?.getD 0 = b[j]?.getD 0) : a = b := by
  refine List.ext_getElem hl (fun j h1 h2 => ?_)
  have := h j h1
  rw [List.getElem?_eq_getElem h1, List.getElem?_eq_getElem h2] at this
  exact this

set_option maxRecDepth 100000 in
set_option maxHeartbeats 4000000 in
theorem wFnControlZero (a : Option Addr) (len cap : Nat) (z : List Int) (w : World) (h : IsRow .u8 w a len cap z) :
    Calls Try.prog 9 #[.slice a len cap] w fun e w' => e = .returned (.bool true) ∧ Below w.heap.size w w' := by
  have H := Lib.hid h; clear h
  by_cases hl : 1048576 < len
  · go_enter Try.func9, Try.ntmps9
    go_wp2_with fail
    go_ret
    exact ⟨rfl, Below.refl _ _⟩
  go_enter Try.func9, Try.ntmps9
  go_wp2_with fail
  refine (drawControlRound _ _ _ _ _ H.out).mono ?_
  rintro e w1 ⟨g, cp, t, us, b, rfl, ho, hd, hb1, hb2, bl1⟩
  have LD := Lib.hid (lensD hd.out)
  have HB1 := Lib.hid bl1
  clear bl1 hl
  go_wp2_with fail
  with_reducible refine (iControlRound _ _ _ t b ho.out.ints LD.out).mono ?_
  rintro e w2 ⟨bl2, hI⟩
  have HO2 := Lib.hid (ho.out.below bl2)
  have HB2 := Lib.hid (HB1.out.trans (bl2.mono HB1.out.size))
  rcases hI with ⟨hn, rfl⟩ | ⟨hs, gy, cy, uy, rfl, hy⟩
  · go_wp2_with fail
    with_reducible refine (sControlRound _ _ _ t b HO2.out.ints LD.out).mono ?_
    rintro e w3 ⟨bl3, hS⟩
    rcases hS with ⟨_, g3, rfl, o3⟩ | ⟨hs, _⟩
    rotate_left
    · exact absurd hs hn
    have HB3 := Lib.hid (HB2.out.trans (bl3.mono HB2.out.size))
    have HO3 := Lib.hid (HO2.out.below bl3)
    have HN := Lib.hid hn
    have O3 := Lib.hid o3
    clear o3 bl2 bl3 ho hn
    go_wp2_with fail
    with_reducible refine (same_c _ (nilSS _) (O3.out).ints lens_nil).mono ?_
    rintro e w' ⟨rfl, n3, rfl⟩
    go_wp2_with fail
    with_reducible refine (same_c _ (nilSS _) (O3.out.drewN n3).ints lens_nil).mono ?_
    rintro e w' ⟨rfl, n4, rfl⟩
    go_wp2_with fail
    go_ret
    exact ⟨rfl, below_drewN HB3.out _⟩
  · go_wp2_with fail
    with_reducible refine (sControlRound _ _ _ t b HO2.out.ints LD.out).mono ?_
    rintro e w3 ⟨bl3, hS⟩
    rcases hS with ⟨hn, _⟩ | ⟨_, g3, c3, u3, rfl, o3⟩
    · exact absurd hs hn
    have HB3 := Lib.hid (HB2.out.trans (bl3.mono HB2.out.size))
    have HO3 := Lib.hid (HO2.out.below bl3)
    have HY3 := Lib.hid (hy.below bl3)
    have HSM := Lib.hid hs
    have HF := Lib.hid (near_fits hs.1 hs.2.2.1 hs.2.2.2)
    have HLY : Hid (t.length = (nearR t b).length) := HF.out.2.2.1.1
    have LY := Lib.hid (lens_same hs.1 HF.out.2.2.1)
    have HLE : Hid (∀ y, Fits t y b → farOf t (nearR t b) ≤ farOf t y) := fun y hf => near_le HSM.out.2.2.1 HSM.out.2.2.2 hf
    obtain ⟨Y, hY⟩ : ∃ Y, nearR t b = Y := ⟨_, rfl⟩
    rw [hY] at HY3 o3 HF HLY LY HLE
    have HNY := Lib.hid hY
    have O3 := Lib.hid o3
    clear o3 bl2 bl3 ho hs hY hy
    go_wp2_with fail
    with_reducible refine (same_c _ HY3.out.ints O3.out.ints LY.out).mono ?_
    rintro e w' ⟨rfl, n3, rfl⟩
    have HB4 := Lib.hid (below_drewN HB3.out n3)
    have HO4 := Lib.hid (HO3.out.drewN n3)
    have HY4 := Lib.hid (HY3.out.drewN n3)
    clear HO2 HB2 HO3 HY3 O3 HB3 HB1
    generalize w3.drewN n3 = w4 at *
    go_wp2_with fail
    have HTK := Lib.hid HSM.out.1
    have hlt := HSM.out.1.2.1
    have hl0 : 1 ≤ t.length := HSM.out.1.1
    have hw0 : 1 ≤ wid t 0 := HSM.out.1.2.2.1
    have hw4 : wid t 0 ≤ 4 := HSM.out.1.2.2.2.1
    have hbb : 2 ≤ b := HSM.out.2.2.1
    have hb20 : b ≤ 20 := HSM.out.2.2.2
    have hbz : b ≠ 0 := by omega
    go_wp2_with fail
    go_loopw [9] (fun i wr => ∃ (k : Nat), k ≤ t.length ∧ i = .int .i64 k ∧ Hid (OwnU wr w.heap.size (.slice (some ⟨g, 0, none⟩) t.length cp) t us) ∧ Hid (OwnU wr w1.heap.size (.slice (some ⟨gy, 0, none⟩) t.length cy) Y uy) ∧ Hid (Below w.heap.size w wr)) (fun i _ => t.length - (intOf i).toNat)
    case atStart => exact ⟨0, Nat.zero_le _, rfl, HO4, HY4, HB4⟩
    case round =>
      clear HO4 HY4 HB4
      obtain ⟨k, hk, rfl, HOK, HYK, HBK⟩ := hrel
      by_cases hlt2 : k < t.length
      · have hwk : wid t k = wid t 0 := (HTK.out.2.2.2.2 k hlt2).1
        have hwy : wid Y k = wid t 0 := by rw [← HF.out.2.2.1.2 k hlt2, hwk]
        have hltY : k < Y.length := by rw [← HLY.out]; exact hlt2
        obtain ⟨gk, ck, hu, hrow, _, _, _, _, _, hok1⟩ := HOK.out.rowW hlt2
        obtain ⟨gy2, ck2, huy, hrowy, _, _, _, _, _, hok2⟩ := HYK.out.rowW hltY
        have HI1 := Lib.hid hok1.ints
        have HI2 := Lib.hid hok2.ints
        rw [hwk] at hrow HI1
        rw [hwy] at hrowy HI2
        have HU := Lib.hid hu
        have HUY := Lib.hid huy
        have ki : (k : Int) < (t.length : Int) := by omega
        have HWK := Lib.hid hwk
        have HWY := Lib.hid hwy
        have HRW : Hid ((∀ j, j < wid t 0 → cel t k j % b = 0) → Y[k]?.getD [] = t[k]?.getD []) := by
          intro hm
          refine row_ext (by unfold wid at hwk hwy; omega) (fun j hj => ?_)
          have hj2 : j < wid t 0 := by rw [← hwy]; exact hj
          have h1 := hm j hj2
          have h2 := HF.out.2.2.2.1 k hlt2 j hj2
          unfold cOk dn at h2
          show cel Y k j = cel t k j
          rcases h2 with h2 | ⟨_, h2⟩ <;> omega
        have hL1 : (t[k]?.getD []).length ≤ 4611686018427387904 := by unfold wid at hwk; have := HSM.out.1.2.2.2.1; unfold wid at this; omega
        have hL2 : (Y[k]?.getD []).length ≤ 4611686018427387904 := by unfold wid at hwy; have := HSM.out.1.2.2.2.1; unfold wid at this; omega
        clear hwk hwy hu huy hok1 hok2
        obtain ⟨rt, hrt⟩ : ∃ r, t[k]?.getD [] = r := ⟨_, rfl⟩
        obtain ⟨ry, hry⟩ : ∃ r, Y[k]?.getD [] = r := ⟨_, rfl⟩
        rw [hrt] at HI1 hL1 HRW
        rw [hry] at HI2 hL2 HRW
        clear hrt hry
        go_wp2_with fail
        go_loop [10, 11] (fun s j => ∃ (q : Nat) (d : Bool), q ≤ wid t 0 ∧ j = .int .i64 q ∧ s = .bool d ∧ Hid (d = true → ∀ j, j < q → cel t k j % b = 0)) (fun _ j => wid t 0 - (intOf j).toNat)
        case atStart => exact ⟨0, true, Nat.zero_le _, rfl, rfl, fun _ j h => by omega⟩
        case round =>
          obtain ⟨q, d, hq, rfl, rfl, hM⟩ := hrel
          by_cases hqlt : q < wid t 0
          · cases d with
            | false =>
              obtain ⟨hct, _⟩ := HOK.out.at hlt2 HU.out (j := q) (by have := HWK.out; unfold wid at this hqlt; omega)
              change wr.cell? ⟨gk, q, none⟩ = some (.int .i64 (cel t k q)) at hct
              obtain ⟨hcy, _⟩ := HYK.out.at hltY HUY.out (j := q) (by have := HWY.out; unfold wid at this hqlt; omega)
              change wr.cell? ⟨gy2, q, none⟩ = some (.int .i64 (cel Y k q)) at hcy
              have hfc := HF.out.2.2.2.1 k hlt2 q hqlt
              obtain ⟨c, hce⟩ : ∃ c, cel t k q = c := ⟨_, rfl⟩
              obtain ⟨y, hye⟩ : ∃ c, cel Y k q = c := ⟨_, rfl⟩
              have hcb : 0 ≤ c ∧ c ≤ 99 := by rw [← hce]; exact (HTK.out.2.2.2.2 k hlt2).2 q hqlt
              obtain ⟨r, hre⟩ : ∃ r, c % b = r := ⟨_, rfl⟩
              have mm : c.tmod b = r := by rw [Int.tmod_eq_emod_of_nonneg hcb.1]; exact hre
              rw [hce] at hct
              rw [hye] at hcy
              rw [hce, hye] at hfc
              have hy0 : c = 0 → y = 0 := fun h => by unfold cOk dn at hfc; rw [h, Int.zero_emod] at hfc; omega
              have qi : (q : Int) < (wid t 0 : Int) := by omega
              clear hye hfc
              by_cases hc0 : c = 0
              · have hyz := hy0 hc0
                subst hc0 hyz
                clear hM hce hre hy0 mm
                go_wp2_with fail
                go_round
                case rel => exact ⟨q + 1, false, by omega, by go_num, rfl, fun h => by cases h⟩
                case measure => simp [intOf]; omega
              · have ce : (c == 0) = false := by simpa using hc0
                clear hM hce hre hy0
                go_wp2_with fail
                go_round
                case rel => exact ⟨q + 1, false, by omega, by go_num, rfl, fun h => by cases h⟩
                case measure => simp [intOf]; omega
            | true =>
              obtain ⟨hct, _⟩ := HOK.out.at hlt2 HU.out (j := q) (by have := HWK.out; unfold wid at this hqlt; omega)
              change wr.cell? ⟨gk, q, none⟩ = some (.int .i64 (cel t k q)) at hct
              obtain ⟨hcy, _⟩ := HYK.out.at hltY HUY.out (j := q) (by have := HWY.out; unfold wid at this hqlt; omega)
              change wr.cell? ⟨gy2, q, none⟩ = some (.int .i64 (cel Y k q)) at hcy
              have hfc := HF.out.2.2.2.1 k hlt2 q hqlt
              obtain ⟨c, hce⟩ : ∃ c, cel t k q = c := ⟨_, rfl⟩
              obtain ⟨y, hye⟩ : ∃ c, cel Y k q = c := ⟨_, rfl⟩
              have hcb : 0 ≤ c ∧ c ≤ 99 := by rw [← hce]; exact (HTK.out.2.2.2.2 k hlt2).2 q hqlt
              obtain ⟨r, hre⟩ : ∃ r, c % b = r := ⟨_, rfl⟩
              have mm : c.tmod b = r := by rw [Int.tmod_eq_emod_of_nonneg hcb.1]; exact hre
              rw [hce] at hct
              rw [hye] at hcy
              rw [hce, hye] at hfc
              have hy0 : c = 0 → y = 0 := fun h => by unfold cOk dn at hfc; rw [h, Int.zero_emod] at hfc; omega
              have qi : (q : Int) < (wid t 0 : Int) := by omega
              clear hye hfc
              by_cases hr0 : r = 0
              · have HN : Hid (true = true → ∀ j, j < q + 1 → cel t k j % b = 0) := fun _ j hj => by
                  by_cases e : j = q
                  · rw [e, hce, hre]; exact hr0
                  · exact hM.out rfl j (by omega)
                subst hr0
                have cr : ((0 : Int) == 0) = true := by simp
                by_cases hc0 : c = 0
                · have hyz := hy0 hc0
                  subst hc0 hyz
                  clear hM hce hre hy0
                  go_wp2_with fail
                  go_round
                  case rel => exact ⟨q + 1, true, by omega, by go_num, rfl, HN⟩
                  case measure => simp [intOf]; omega
                · have ce : (c == 0) = false := by simpa using hc0
                  clear hM hce hre hy0
                  go_wp2_with fail
                  go_round
                  case rel => exact ⟨q + 1, true, by omega, by go_num, rfl, HN⟩
                  case measure => simp [intOf]; omega
              · have cr : (r == 0) = false := by simp [hr0]
                have hc0 : ¬ c = 0 := fun h => hr0 (by rw [← hre, h]; exact Int.zero_emod b)
                have ce : (c == 0) = false := by simpa using hc0
                clear hM hce hre hy0 hr0 hc0
                go_wp2_with fail
                go_round
                case rel => exact ⟨q + 1, false, by omega, by go_num, rfl, fun h => by cases h⟩
                case measure => simp [intOf]; omega
          · have HM : Hid (d = true → ry = rt) := fun hd => HRW.out (fun j hj => hM.out hd j (by omega))
            clear hM
            cases d with
            | false =>
              go_wp2_with fail
              go_quiet (fail)
              go_wp2_with fail
              go_roundw
              case rel => exact ⟨k + 1, by omega, by go_num, HOK.out.drewN nq, HYK.out.drewN nq, below_drewN HBK.out nq⟩
              case measure => simp [intOf]; omega
            | true =>
              have D : Hid (decide (ry = rt) = true) := by unfold Hid; rw [decide_eq_true (HM.out rfl)]
              clear HM
              go_wp2_with fail
              go_quiet ((go_at_call 27; exact Calls.quiet_of (lSameInts _ _ _ _ _ ry rt HI2.out HI1.out hL2 hL1)))
              rw [D.out]
              go_wp2_with fail
              go_roundw
              case rel => exact ⟨k + 1, by omega, by go_num, HOK.out.drewN nq, HYK.out.drewN nq, below_drewN HBK.out nq⟩
              case measure => simp [intOf]; omega
      · go_wp2_with fail
        go_ret
        exact ⟨rfl, HBK.out⟩

end Go.Proofs.Ytihkahojicafiaa
