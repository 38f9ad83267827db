/- The walk of the law: no rounding is nearer. (Printed by wip/tools/mkR8.py.) -/
import Derived.Test.YtihkahojicafiaaRoundA
namespace Go.Proofs.Ytihkahojicafiaa
open Go.RowKit

set_option maxRecDepth 100000 in
set_option maxHeartbeats 4000000 in
theorem wFnControlBest (a : Option Addr) (len cap : Nat) (z : List Int) (a1 : Option Addr) (len1 cap1 : Nat) (z1 : List Int) (w : World) (h : IsRow .u8 w a len cap z) (_ : IsRow .u8 w a1 len1 cap1 z1) :
    Calls Try.prog 10 #[.slice a len cap, .slice a1 len1 cap1] w fun e w' => e = .returned (.bool true) ∧ Below w.heap.size w w' := by
  have H := Lib.hid h; clear h
  by_cases hl : 1048576 < len
  · go_enter Try.func10, Try.ntmps10
    go_wp2_with fail
    go_ret
    exact ⟨rfl, Below.refl _ _⟩
  by_cases hl1 : 1048576 < len1
  · have d1 : decide ((1048576 : Int) < (len1 : Int)) = true := by simp; omega
    go_enter Try.func10, Try.ntmps10
    go_wp2_with fail
    go_ret
    exact ⟨rfl, Below.refl _ _⟩
  have d1 : decide ((1048576 : Int) < (len1 : Int)) = false := by simp; omega
  go_enter Try.func10, Try.ntmps10
  go_wp2_with fail
  refine (drawControlRound _ _ _ _ _ H.out).mono ?_
  rintro e w1 ⟨g, cp, t, us, b, rfl, ho, hd, hb1, hb2, bl1⟩
  have LD := Lib.hid (lensD hd.out)
  have HB1 := Lib.hid bl1
  clear bl1 hl
  go_wp2_with fail
  with_reducible refine (iControlRound _ _ _ t b ho.out.ints LD.out).mono ?_
  rintro e w2 ⟨bl2, hI⟩
  have HO2 := Lib.hid (ho.out.below bl2)
  have HB2 := Lib.hid (HB1.out.trans (bl2.mono HB1.out.size))
  rcases hI with ⟨hn, rfl⟩ | ⟨hs, gy, cy, uy, rfl, hy⟩
  · go_wp2_with fail
    with_reducible refine (sControlRound _ _ _ t b HO2.out.ints LD.out).mono ?_
    rintro e w3 ⟨bl3, hS⟩
    rcases hS with ⟨_, g3, rfl, o3⟩ | ⟨hs, _⟩
    rotate_left
    · exact absurd hs hn
    have HB3 := Lib.hid (HB2.out.trans (bl3.mono HB2.out.size))
    have HO3 := Lib.hid (HO2.out.below bl3)
    have HN := Lib.hid hn
    have O3 := Lib.hid o3
    clear o3 bl2 bl3 ho hn
    go_wp2_with fail
    with_reducible refine (same_c _ (nilSS _) (O3.out).ints lens_nil).mono ?_
    rintro e w' ⟨rfl, n3, rfl⟩
    go_wp2_with fail
    with_reducible refine (same_c _ (nilSS _) (O3.out.drewN n3).ints lens_nil).mono ?_
    rintro e w' ⟨rfl, n4, rfl⟩
    go_wp2_with fail
    go_ret
    exact ⟨rfl, below_drewN HB3.out _⟩
  · go_wp2_with fail
    with_reducible refine (sControlRound _ _ _ t b HO2.out.ints LD.out).mono ?_
    rintro e w3 ⟨bl3, hS⟩
    rcases hS with ⟨hn, _⟩ | ⟨_, g3, c3, u3, rfl, o3⟩
    · exact absurd hs hn
    have HB3 := Lib.hid (HB2.out.trans (bl3.mono HB2.out.size))
    have HO3 := Lib.hid (HO2.out.below bl3)
    have HY3 := Lib.hid (hy.below bl3)
    have HSM := Lib.hid hs
    have HF := Lib.hid (near_fits hs.1 hs.2.2.1 hs.2.2.2)
    have HLY : Hid (t.length = (nearR t b).length) := HF.out.2.2.1.1
    have LY := Lib.hid (lens_same hs.1 HF.out.2.2.1)
    have HLE : Hid (∀ y, Fits t y b → farOf t (nearR t b) ≤ farOf t y) := fun y hf => near_le HSM.out.2.2.1 HSM.out.2.2.2 hf
    rw [HLY.out] at HY3 o3
    obtain ⟨Y, hY⟩ : ∃ Y, nearR t b = Y := ⟨_, rfl⟩
    rw [hY] at HY3 o3 HF HLY LY HLE
    have HNY := Lib.hid hY
    have O3 := Lib.hid o3
    clear o3 bl2 bl3 ho hs hY hy
    rw [HLY.out]
    go_wp2_with fail
    with_reducible refine (same_c _ HY3.out.ints O3.out.ints LY.out).mono ?_
    rintro e w' ⟨rfl, n3, rfl⟩
    have HB4 := Lib.hid (below_drewN HB3.out n3)
    have HO4 := Lib.hid (HO3.out.drewN n3)
    have HY4 := Lib.hid (HY3.out.drewN n3)
    rw [HLY.out] at HO4
    clear HO2 HB2 HO3 HY3 O3 HB3 HB1
    generalize w3.drewN n3 = w4 at *
    obtain ⟨n, hn⟩ : ∃ n, Y.length = n := ⟨_, rfl⟩
    rw [hn] at HLY HY4 HO4 ⊢
    have HYN := Lib.hid hn
    clear hn
    have HTK := Lib.hid HSM.out.1
    have p0 : 0 < n := by rw [← HLY.out]; exact HSM.out.1.1
    have p0i : (0 : Int) < (n : Int) := by omega
    have hw0 : 1 ≤ wid t 0 := HSM.out.1.2.2.1
    have hbz : b ≠ 0 := by have := HSM.out.2.2.1; omega
    obtain ⟨g0, k0, _, hc0, _⟩ := HO4.out.rowW (i := 0) HSM.out.1.1
    obtain ⟨i, hie⟩ : ∃ i, len1 % n = i := ⟨_, rfl⟩
    obtain ⟨q, hqe⟩ : ∃ q, len1 / n = q := ⟨_, rfl⟩
    obtain ⟨j, hje⟩ : ∃ j, q % wid t 0 = j := ⟨_, rfl⟩
    have hiY : i < n := by rw [← hie]; exact Nat.mod_lt _ (by omega)
    have hi : i < t.length := by rw [HLY.out]; exact hiY
    have hiY' : i < Y.length := by rw [HYN.out]; exact hiY
    have hj : j < wid t 0 := by rw [← hje]; exact Nat.mod_lt _ (by omega)
    have hq : q ≤ 1048576 := by rw [← hqe]; exact Nat.le_trans (Nat.div_le_self _ _) (by omega)
    have t1 : (len1 : Int).tmod (n : Int) = (i : Int) := by rw [← hie]; exact (Int.ofNat_tmod len1 n).symm
    have t2 : (len1 : Int) % (n : Int) = (i : Int) := by rw [← hie]; rfl
    have t3 : (len1 : Int).tdiv (n : Int) = (q : Int) := by rw [← hqe]; exact (Int.ofNat_tdiv len1 n).symm
    have t4 : (len1 : Int) / (n : Int) = (q : Int) := by rw [← hqe]; rfl
    have t5 : (q : Int).tmod (wid t 0 : Int) = (j : Int) := by rw [← hje]; exact (Int.ofNat_tmod q (wid t 0)).symm
    have t6 : (q : Int) % (wid t 0 : Int) = (j : Int) := by rw [← hje]; rfl
    have hYn : n ≠ 0 := by omega
    have hwn : wid t 0 ≠ 0 := by omega
    have LR := Lib.hid (lensR_same HSM.out.1 HF.out.2.2.1)
    clear hie hqe hje
    go_wp2_with fail
    go_quiet (fail)
    replace HB4 := Lib.hid (below_drewN HB4.out nq)
    replace HO4 := Lib.hid (HO4.out.drewN nq)
    replace HY4 := Lib.hid (HY4.out.drewN nq)
    clear hc0
    generalize w4.drewN nq = w4 at *
    go_wp2_with fail
    with_reducible refine (lCopyRows _ _ _ Y HY4.out.ints LR.out.1 LR.out.2).mono ?_
    rintro e w5 ⟨vx, xs, rfl, hx, bl5⟩
    have B45 := Lib.hid bl5
    have HX := Lib.hid hx
    have HO5 := Lib.hid (HO4.out.below bl5)
    have B5 := Lib.hid (HB4.out.trans (bl5.mono HB4.out.size))
    obtain ⟨gx, capx, rfl, hgx, _, _, _⟩ := hx.form
    rw [HYN.out] at HX ⊢
    clear hx bl5
    obtain ⟨gi, ci, hu, hrow, _, _, _, _, _, _⟩ := HX.out.rowW hiY'
    have hwt : wid t i = wid t 0 := (HTK.out.2.2.2.2 i hi).1
    have hwi : wid Y i = wid t 0 := by rw [← HF.out.2.2.1.2 i hi, hwt]
    obtain ⟨hcel, hfrz⟩ := HX.out.at hiY' hu (j := j) (by unfold wid at hwi hj; omega)
    change w5.cell? ⟨gi, j, none⟩ = some (.int .i64 (cel Y i j)) at hcel
    obtain ⟨gt, ct, hut, hrt, _, _, _, _, _, _⟩ := HO5.out.rowW hi
    obtain ⟨hct, _⟩ := HO5.out.at hi hut (j := j) (by unfold wid at hwt hj; omega)
    change w5.cell? ⟨gt, j, none⟩ = some (.int .i64 (cel t i j)) at hct
    obtain ⟨y, hye⟩ : ∃ y, cel Y i j = y := ⟨_, rfl⟩
    obtain ⟨c, hce⟩ : ∃ c, cel t i j = c := ⟨_, rfl⟩
    have hcb : 0 ≤ c ∧ c ≤ 99 := by rw [← hce]; exact (HTK.out.2.2.2.2 i hi).2 j hj
    obtain ⟨r, hre⟩ : ∃ r, c % b = r := ⟨_, rfl⟩
    have hrb : 0 ≤ r ∧ r ≤ 20 := by have h1 := HSM.out.2.2; rw [← hre]; have := Int.emod_lt_of_pos c (show 0 < b by omega); exact ⟨Int.emod_nonneg _ (by omega), by omega⟩
    have mm : c.tmod b = r := by rw [Int.tmod_eq_emod_of_nonneg hcb.1]; exact hre
    rw [hye] at hcel
    rw [hce] at hct
    rw [hwi] at hrow hu
    rw [hwt] at hrt
    have HU := Lib.hid hu
    clear hce hye hu hut hwi hwt
    have ki : (i : Int) < (n : Int) := by omega
    have kj : (j : Int) < (wid t 0 : Int) := by omega
    have cw1 : IntKind.i64.wrap (c - r) = c - r := by rw [IntKind.wrap_i64]; omega
    have cw2 : IntKind.i64.wrap (c - r + b) = c - r + b := by have := HSM.out.2.2; rw [IntKind.wrap_i64]; omega
    go_wp2_with fail
    go_quiet (fail)
    replace B5 := Lib.hid (below_drewN B5.out nq)
    replace B45 := Lib.hid (below_drewN B45.out nq)
    replace HX := Lib.hid (HX.out.drewN nq)
    clear HO5
    change (w5.drewN nq).cell? _ = _ at hrow hcel hct hrt
    change (w5.drewN nq).frozen? _ = _ at hfrz
    generalize w5.drewN nq = w5 at *
    by_cases hy : y = c - r
    · have ce : (y == c - r) = true := by simpa using hy
      have HX2 := Lib.hid (OwnU.setT HX.out hiY' HU.out j (c - r + b))
      have hgi : w4.heap.size ≤ gi := (HX.out.blk (.inr ⟨i, by rw [HX.out.len]; exact hiY', by rw [HU.out]; rfl⟩)).1
      have BX : Below w4.heap.size w5 (w5.setCell ⟨gi, j, none⟩ (.int .i64 (c - r + b))) := (Below.refl w4.heap.size _).setCell (p := ⟨gi, j, none⟩) hgi _
      have LX : Hid (lensT (setT Y i j (c - r + b))) := lens_same HSM.out.1 (sameT_set HF.out.2.2.1 i j (c - r + b))
      have B6 := Lib.hid (B5.out.trans (BX.mono (by exact HB4.out.size)))
      have HO6 := Lib.hid (HO4.out.below (B45.out.trans BX))
      have HY6 := Lib.hid (HY4.out.below (B45.out.trans BX))
      clear BX
      go_wp2_with fail
      generalize w5.setCell ⟨gi, j, none⟩ (.int .i64 (c - r + b)) = w6 at *
      generalize setT Y i j (c - r + b) = X at *
      with_reducible refine (iFits _ _ _ _ _ t X b HO6.out.ints HX2.out.ints LD.out LX.out).mono ?_
      rintro e w7 ⟨rfl, bl7⟩
      have B7 := Lib.hid (B6.out.trans (bl7.mono B6.out.size))
      have HO7 := Lib.hid (HO6.out.below bl7)
      have HY7 := Lib.hid (HY6.out.below bl7)
      have HX7 := Lib.hid (HX2.out.below bl7)
      by_cases hf : Fits t X b
      · have hfar := HLE.out X hf
        rw [decide_eq_true hf]
        clear hf bl7
        go_wp2_with fail
        with_reducible refine (iControlFar _ _ _ _ _ t X HO7.out.ints HX7.out.ints LD.out LX.out).mono ?_
        rintro e w8 ⟨rfl, bl8⟩
        have B8 := Lib.hid (B7.out.trans (bl8.mono B7.out.size))
        have HO8 := Lib.hid (HO7.out.below bl8)
        have HY8 := Lib.hid (HY7.out.below bl8)
        clear bl8
        generalize farOf t X = fx at *
        go_wp2_with fail
        with_reducible refine (iControlFar _ _ _ _ _ t Y HO8.out.ints HY8.out.ints LD.out LY.out).mono ?_
        rintro e w9 ⟨rfl, bl9⟩
        have HNFX : decide (farOf t Y ≤ fx) = true := by simpa using hfar
        generalize farOf t Y = fy at *
        go_wp2_with fail
        go_ret
        exact ⟨rfl, B8.out.trans (bl9.mono B8.out.size)⟩
      · rw [decide_eq_false hf]
        clear hf
        go_wp2_with fail
        go_ret
        exact ⟨rfl, B7.out⟩
    · have ce : (y == c - r) = false := by simpa using hy
      have HX2 := Lib.hid (OwnU.setT HX.out hiY' HU.out j (c - r))
      have hgi : w4.heap.size ≤ gi := (HX.out.blk (.inr ⟨i, by rw [HX.out.len]; exact hiY', by rw [HU.out]; rfl⟩)).1
      have BX : Below w4.heap.size w5 (w5.setCell ⟨gi, j, none⟩ (.int .i64 (c - r))) := (Below.refl w4.heap.size _).setCell (p := ⟨gi, j, none⟩) hgi _
      have LX : Hid (lensT (setT Y i j (c - r))) := lens_same HSM.out.1 (sameT_set HF.out.2.2.1 i j (c - r))
      have B6 := Lib.hid (B5.out.trans (BX.mono (by exact HB4.out.size)))
      have HO6 := Lib.hid (HO4.out.below (B45.out.trans BX))
      have HY6 := Lib.hid (HY4.out.below (B45.out.trans BX))
      clear BX
      go_wp2_with fail
      generalize w5.setCell ⟨gi, j, none⟩ (.int .i64 (c - r)) = w6 at *
      generalize setT Y i j (c - r) = X at *
      with_reducible refine (iFits _ _ _ _ _ t X b HO6.out.ints HX2.out.ints LD.out LX.out).mono ?_
      rintro e w7 ⟨rfl, bl7⟩
      have B7 := Lib.hid (B6.out.trans (bl7.mono B6.out.size))
      have HO7 := Lib.hid (HO6.out.below bl7)
      have HY7 := Lib.hid (HY6.out.below bl7)
      have HX7 := Lib.hid (HX2.out.below bl7)
      by_cases hf : Fits t X b
      · have hfar := HLE.out X hf
        rw [decide_eq_true hf]
        clear hf bl7
        go_wp2_with fail
        with_reducible refine (iControlFar _ _ _ _ _ t X HO7.out.ints HX7.out.ints LD.out LX.out).mono ?_
        rintro e w8 ⟨rfl, bl8⟩
        have B8 := Lib.hid (B7.out.trans (bl8.mono B7.out.size))
        have HO8 := Lib.hid (HO7.out.below bl8)
        have HY8 := Lib.hid (HY7.out.below bl8)
        clear bl8
        generalize farOf t X = fx at *
        go_wp2_with fail
        with_reducible refine (iControlFar _ _ _ _ _ t Y HO8.out.ints HY8.out.ints LD.out LY.out).mono ?_
        rintro e w9 ⟨rfl, bl9⟩
        have HNFX : decide (farOf t Y ≤ fx) = true := by simpa using hfar
        generalize farOf t Y = fy at *
        go_wp2_with fail
        go_ret
        exact ⟨rfl, B8.out.trans (bl9.mono B8.out.size)⟩
      · rw [decide_eq_false hf]
        clear hf
        go_wp2_with fail
        go_ret
        exact ⟨rfl, B7.out⟩

end Go.Proofs.Ytihkahojicafiaa
