/- The walk of the law: the nearest one is as near when turned. (Printed by wip/tools/mkR8.py.) -/
import Derived.Test.YtihkahojicafiaaRoundA
import Derived.Test.YtihkahojicafiaaTurn
namespace Go.Proofs.Ytihkahojicafiaa
open Go.RowKit

theorem turn_smallR {t : List (List Int)} {b : Int} (h : small t b) : small (turnT t) b := by
  have e1 : (turnT t).length = wid t 0 := mkT_len _ _ _
  have e2 : wid (turnT t) 0 = t.length := mkT_wid (by have := h.1.2.2.1; omega)
  exact ⟨turn_ok h.1, by rw [e1, e2, Nat.mul_comm]; exact h.2.1, h.2.2⟩
theorem far_turn {t y : List (List Int)} {b : Int} (h : Fits t y b) : farOf (turnT t) (turnT y) = farOf t y := by
  rw [(far_bd h).1, (far_bd (turn_fits h)).1]
  have ht := h.1
  have hs := h.2.2.1
  have hwy : wid y 0 = wid t 0 := (hs.2 0 (by have := ht.1; omega)).symm
  have e1 : (turnT t).length = wid t 0 := mkT_len _ _ _
  have c1 : farS (turnT t) (turnT y) = S (wid t 0) (fun j => S t.length (fun i => dif t y i j)) := by
    unfold farS
    rw [e1]
    refine S_congr (fun j hj => ?_)
    have e2 : wid (turnT t) j = t.length := mkT_wid hj
    rw [e2]
    refine S_congr (fun i hi => ?_)
    have a1 : cel (turnT t) j i = cel t i j := mkT_cel hj hi
    have a2 : cel (turnT y) j i = cel y i j := mkT_cel (by rw [hwy]; exact hj) (by rw [← hs.1]; exact hi)
    unfold dif
    rw [a1, a2]
  have c2 : farS t y = S t.length (fun i => S (wid t 0) (fun j => dif t y i j)) := by
    unfold farS
    refine S_congr (fun i hi => ?_)
    rw [(ht.2.2.2.2 i hi).1]
  rw [c1, c2]
  exact (S_swap _ _ _).symm
theorem near_turn {t : List (List Int)} {b : Int} (h : small t b) : farOf (turnT t) (nearR (turnT t) b) = farOf t (nearR t b) := by
  obtain ⟨ht, _, hb, hb2⟩ := h
  have f1 := near_fits ht hb hb2
  have f2 := near_fits (turn_ok ht) hb hb2
  have e1 := far_turn f1
  have e2 := far_turn f2
  have ett : turnT (turnT t) = t := turn_turn ht (same_refl t)
  have g2 := turn_fits f2
  rw [ett] at e2 g2
  have l1 := near_le hb hb2 (turn_fits f1)
  have l2 := near_le hb hb2 g2
  omega

set_option maxRecDepth 100000 in
set_option maxHeartbeats 4000000 in
theorem wFnControlFarTurn (a : Option Addr) (len cap : Nat) (z : List Int) (w : World) (h : IsRow .u8 w a len cap z) :
    Calls Try.prog 4 #[.slice a len cap] w fun e w' => e = .returned (.bool true) ∧ Below w.heap.size w w' := by
  have H := Lib.hid h; clear h
  by_cases hl : 1048576 < len
  · go_enter Try.func4, Try.ntmps4
    go_wp2_with fail
    go_ret
    exact ⟨rfl, Below.refl _ _⟩
  go_enter Try.func4, Try.ntmps4
  go_wp2_with fail
  refine (drawControlRound _ _ _ _ _ H.out).mono ?_
  rintro e w1 ⟨g, cp, t, us, b, rfl, ho, hd, hb1, hb2, bl1⟩
  have LD := Lib.hid (lensD hd.out)
  have HB1 := Lib.hid bl1
  clear bl1 hl
  go_wp2_with fail
  with_reducible refine (iControlRound _ _ _ t b ho.out.ints LD.out).mono ?_
  rintro e w2 ⟨bl2, hI⟩
  have HO2 := Lib.hid (ho.out.below bl2)
  have HB2 := Lib.hid (HB1.out.trans (bl2.mono HB1.out.size))
  rcases hI with ⟨hn, rfl⟩ | ⟨hs, gy, cy, uy, rfl, hy⟩
  · go_wp2_with fail
    with_reducible refine (sControlRound _ _ _ t b HO2.out.ints LD.out).mono ?_
    rintro e w3 ⟨bl3, hS⟩
    rcases hS with ⟨_, g3, rfl, o3⟩ | ⟨hs, _⟩
    rotate_left
    · exact absurd hs hn
    have HB3 := Lib.hid (HB2.out.trans (bl3.mono HB2.out.size))
    have HO3 := Lib.hid (HO2.out.below bl3)
    have HN := Lib.hid hn
    have O3 := Lib.hid o3
    clear o3 bl2 bl3 ho hn
    go_wp2_with fail
    with_reducible refine (same_c _ (nilSS _) (O3.out).ints lens_nil).mono ?_
    rintro e w' ⟨rfl, n3, rfl⟩
    go_wp2_with fail
    with_reducible refine (same_c _ (nilSS _) (O3.out.drewN n3).ints lens_nil).mono ?_
    rintro e w' ⟨rfl, n4, rfl⟩
    go_wp2_with fail
    go_ret
    exact ⟨rfl, below_drewN HB3.out _⟩
  · go_wp2_with fail
    with_reducible refine (sControlRound _ _ _ t b HO2.out.ints LD.out).mono ?_
    rintro e w3 ⟨bl3, hS⟩
    rcases hS with ⟨hn, _⟩ | ⟨_, g3, c3, u3, rfl, o3⟩
    · exact absurd hs hn
    have HB3 := Lib.hid (HB2.out.trans (bl3.mono HB2.out.size))
    have HO3 := Lib.hid (HO2.out.below bl3)
    have HY3 := Lib.hid (hy.below bl3)
    have HSM := Lib.hid hs
    have HF := Lib.hid (near_fits hs.1 hs.2.2.1 hs.2.2.2)
    have HLY : Hid (t.length = (nearR t b).length) := HF.out.2.2.1.1
    have LY := Lib.hid (lens_same hs.1 HF.out.2.2.1)
    have HLE : Hid (∀ y, Fits t y b → farOf t (nearR t b) ≤ farOf t y) := fun y hf => near_le HSM.out.2.2.1 HSM.out.2.2.2 hf
    rw [HLY.out] at HY3 o3
    obtain ⟨Y, hY⟩ : ∃ Y, nearR t b = Y := ⟨_, rfl⟩
    rw [hY] at HY3 o3 HF HLY LY HLE
    have HNY := Lib.hid hY
    have O3 := Lib.hid o3
    clear o3 bl2 bl3 ho hs hY hy
    rw [HLY.out]
    go_wp2_with fail
    with_reducible refine (same_c _ HY3.out.ints O3.out.ints LY.out).mono ?_
    rintro e w' ⟨rfl, n3, rfl⟩
    have HB4 := Lib.hid (below_drewN HB3.out n3)
    have HO4 := Lib.hid (HO3.out.drewN n3)
    have HY4 := Lib.hid (HY3.out.drewN n3)
    rw [HLY.out] at HO4
    clear HO2 HB2 HO3 HY3 O3 HB3 HB1
    generalize w3.drewN n3 = w4 at *
    go_wp2_with fail
    have HE := Lib.hid (near_turn HSM.out)
    rw [HNY.out] at HE
    have LT : Hid (lensT (turnT t)) := lens_ok (turn_ok HSM.out.1)
    have LZ : Hid (lensT (nearR (turnT t) b)) := lens_same (turn_ok HSM.out.1) (near_fits (turn_ok HSM.out.1) HSM.out.2.2.1 HSM.out.2.2.2).2.2.1
    with_reducible refine (iTableTurn _ _ _ t HO4.out.ints LD.out).mono ?_
    rintro e w5 ⟨bl5, ⟨hno, _⟩ | ⟨_, gt, ct, ut, rfl, hot⟩⟩
    · exact absurd HSM.out.1 hno
    have HOT := Lib.hid hot
    have HO5 := Lib.hid (HO4.out.below bl5)
    have HY5 := Lib.hid (HY4.out.below bl5)
    have HB5 := Lib.hid (HB4.out.trans (bl5.mono HB4.out.size))
    clear hot bl5
    go_wp2_with fail
    with_reducible refine (iControlRound _ _ _ (turnT t) b HOT.out.ints LT.out).mono ?_
    rintro e w6 ⟨bl6, ⟨hno, _⟩ | ⟨_, gz, cz, uz, rfl, hz⟩⟩
    · exact absurd (turn_smallR HSM.out) hno
    have HZ6 := Lib.hid hz
    have HO6 := Lib.hid (HO5.out.below bl6)
    have HY6 := Lib.hid (HY5.out.below bl6)
    have HT6 := Lib.hid (HOT.out.below bl6)
    have HB6 := Lib.hid (HB5.out.trans (bl6.mono HB5.out.size))
    clear hz bl6
    go_wp2_with fail
    with_reducible refine (iControlFar _ _ _ _ _ (turnT t) (nearR (turnT t) b) HT6.out.ints HZ6.out.ints LT.out LZ.out).mono ?_
    rintro e w7 ⟨rfl, bl7⟩
    have HO7 := Lib.hid (HO6.out.below bl7)
    have HY7 := Lib.hid (HY6.out.below bl7)
    have HB7 := Lib.hid (HB6.out.trans (bl7.mono HB6.out.size))
    rw [HE.out]
    obtain ⟨fr, hfr⟩ : ∃ f, farOf t Y = f := ⟨_, rfl⟩
    have HFR := Lib.hid hfr
    rw [hfr]
    clear hfr
    go_wp2_with fail
    with_reducible refine (iControlFar _ _ _ _ _ t Y HO7.out.ints HY7.out.ints LD.out LY.out).mono ?_
    rintro e w8 ⟨rfl, bl8⟩
    rw [HFR.out]
    go_wp2_with fail
    go_ret
    exact ⟨rfl, HB7.out.trans (bl8.mono HB7.out.size)⟩

end Go.Proofs.Ytihkahojicafiaa
