/- The walk of the law: multiples are added to cells. -/
import Derived.Test.YtnkgbgeffpeolaaDrawC
import Derived.Test.YtnkgbgeffpeolaaSpecM
namespace Go.Proofs.Ytnkgbgeffpeolaa
open Go.RowKit

theorem many_eq {t x : List (List Int)} {b : Int} (h : small t b) (hs : same t x) (hx : tblOk x) (hc : cntR t b = cntR x b) : manyR x b = manyR t b := by
  have hw : wid x 0 = wid t 0 := (hs.2 0 (by have := h.1.1; omega)).symm
  have hsx : small x b := ⟨hx, by rw [← hs.1, hw]; exact h.2.1, h.2.2⟩
  unfold manyR
  rw [if_pos h, if_pos hsx, hc]
theorem many_big {t : List (List Int)} {b : Int} (h : small t b) : 0 ≤ manyR t b := by unfold manyR; rw [if_pos h]; omega
theorem many_small {t : List (List Int)} {b : Int} (h : ¬ small t b) : manyR t b = -1 := by unfold manyR; rw [if_neg h]
theorem shift_cel {t : List (List Int)} {i j : Nat} (hi : i < t.length) (hj : j < wid t i) (b : Int) : ∀ r, r < t.length → ∀ q, q < wid t 0 → cel (setT t i j (cel t i j + b)) r q = if r = i ∧ q = j then cel t r q + b else cel t r q := by
  intro r _ q _
  rw [setT_cel hi hj]
  split
  · rename_i h; rw [h.1, h.2]
  · rfl

set_option maxRecDepth 100000 in
set_option maxHeartbeats 4000000 in
theorem wFnControlShift (a : Option Addr) (len cap : Nat) (z : List Int) (a1 : Option Addr) (len1 cap1 : Nat) (z1 : List Int) (w : World) (h : IsRow .u8 w a len cap z) (_ : IsRow .u8 w a1 len1 cap1 z1) :
    Calls Try.prog 8 #[.slice a len cap, .slice a1 len1 cap1] w fun e w' => e = .returned (.bool true) ∧ Below w.heap.size w w' := by
  have H := Lib.hid h; clear h
  by_cases hl : 1048576 < len
  · go_enter Try.func8, Try.ntmps8
    go_wp2_with fail
    go_ret
    exact ⟨rfl, Below.refl _ _⟩
  by_cases hl1 : 1048576 < len1
  · have d1 : decide ((1048576 : Int) < (len1 : Int)) = true := by simp; omega
    go_enter Try.func8, Try.ntmps8
    go_wp2_with fail
    go_ret
    exact ⟨rfl, Below.refl _ _⟩
  have d1 : decide ((1048576 : Int) < (len1 : Int)) = false := by simp; omega
  go_enter Try.func8, Try.ntmps8
  go_wp2_with fail
  refine (drawControlMany _ _ _ _ _ H.out).mono ?_
  rintro e w1 ⟨g, cp, t, us, b, rfl, ho, hd, hb1, hb2, bl1⟩
  have LD := Lib.hid (lensD hd.out)
  go_wp2_with fail
  with_reducible refine (iControlMany _ _ _ t b ho.out.ints LD.out).mono ?_
  rintro e w2 ⟨rfl, bl2⟩
  obtain ⟨m, hm⟩ : ∃ m, manyR t b = m := ⟨_, rfl⟩
  rw [hm]
  go_wp2_with fail
  with_reducible refine (sControlMany _ _ _ t b (ho.out.ints.below bl2) LD.out).mono ?_
  rintro e w3 ⟨rfl, bl3⟩
  rw [hm]
  have B3 := Lib.hid (bl2.trans (bl3.mono bl2.size))
  have HO3 := Lib.hid (ho.out.below B3.out)
  clear bl2 bl3 ho
  by_cases hs : small t b
  · have hm0 : 0 ≤ m := by rw [← hm]; exact many_big hs
    have cm : (m != m) = false := by simp
    have hlt := hs.1.2.1
    have hl0 : 1 ≤ t.length := hs.1.1
    have hw0 : 1 ≤ wid t 0 := hs.1.2.2.1
    have hw4 : wid t 0 ≤ 4 := hs.1.2.2.2.1
    have HTK := Lib.hid hs.1
    have HSM := Lib.hid hs
    have HM := Lib.hid hm
    clear hm hs
    go_wp2_with fail
    with_reducible refine (lCopyRows _ _ _ t HO3.out.ints (lensR HTK.out).1 (lensR HTK.out).2).mono ?_
    rintro e w4 ⟨vx, xs, rfl, hx, bl4⟩
    have HX := Lib.hid hx
    have HO4 := Lib.hid (HO3.out.below bl4)
    have B4 := Lib.hid ((B3.out.trans (bl4.mono B3.out.size)))
    obtain ⟨gx, capx, rfl, hgx, _, _, _⟩ := hx.form
    have hxb : w1.heap.size ≤ w3.heap.size := B3.out.size
    obtain ⟨i, hie⟩ : ∃ i, len1 % t.length = i := ⟨_, rfl⟩
    obtain ⟨q, hqe⟩ : ∃ q, len1 / t.length = q := ⟨_, rfl⟩
    obtain ⟨j, hje⟩ : ∃ j, q % wid t 0 = j := ⟨_, rfl⟩
    have hi : i < t.length := by rw [← hie]; exact Nat.mod_lt _ (by omega)
    have hj : j < wid t 0 := by rw [← hje]; exact Nat.mod_lt _ (by omega)
    have hq : q ≤ 1048576 := by rw [← hqe]; exact Nat.le_trans (Nat.div_le_self _ _) (by omega)
    have t1 : (len1 : Int).tmod (t.length : Int) = (i : Int) := by rw [← hie]; exact (Int.ofNat_tmod len1 t.length).symm
    have t2 : (len1 : Int) % (t.length : Int) = (i : Int) := by rw [← hie]; rfl
    have t3 : (len1 : Int).tdiv (t.length : Int) = (q : Int) := by rw [← hqe]; exact (Int.ofNat_tdiv len1 t.length).symm
    have t4 : (len1 : Int) / (t.length : Int) = (q : Int) := by rw [← hqe]; rfl
    have t5 : (q : Int).tmod (wid t 0 : Int) = (j : Int) := by rw [← hje]; exact (Int.ofNat_tmod q (wid t 0)).symm
    have t6 : (q : Int) % (wid t 0 : Int) = (j : Int) := by rw [← hje]; rfl
    clear hie hqe hje hx
    obtain ⟨c0, hc0u, hr0⟩ : ∃ u0, us[0]? = some u0 ∧ w4.cell? ⟨g, 0, none⟩ = some u0 := by
      obtain ⟨gi, ci, hu, hc, _⟩ := HO4.out.row (i := 0) (by omega)
      exact ⟨_, hu, hc⟩
    obtain ⟨g0, k0, hu0, hcell0, _, _, _, _, _, _⟩ := HO4.out.rowW (i := 0) (by omega)
    clear hc0u hr0 c0
    obtain ⟨gi, ci, hu, hrow, _, _, _, _, _, _⟩ := HX.out.rowW hi
    have hwi : wid t i = wid t 0 := (HTK.out.2.2.2.2 i hi).1
    obtain ⟨hcel, hfrz⟩ := HX.out.at hi hu (j := j) (by unfold wid at hwi hj; omega)
    change w4.cell? ⟨gi, j, none⟩ = some (.int .i64 (cel t i j)) at hcel
    obtain ⟨c, hce⟩ : ∃ c, cel t i j = c := ⟨_, rfl⟩
    have hcb : 0 ≤ c ∧ c ≤ 99 := by rw [← hce]; exact (HTK.out.2.2.2.2 i hi).2 j hj
    have HSC : Hid (∀ r, r < t.length → ∀ q, q < wid t 0 → cel (setT t i j (c + b)) r q = if r = i ∧ q = j then cel t r q + b else cel t r q) := by
      have := shift_cel hi (by rw [hwi]; exact hj) b
      rw [hce] at this; exact this
    rw [hce] at hcel
    rw [hwi] at hrow hu
    have HU := Lib.hid hu
    clear hce hu hu0 hwi
    have ki : (i : Int) < (t.length : Int) := by omega
    have kj : (j : Int) < (wid t 0 : Int) := by omega
    have p0 : 0 < t.length := by omega
    have p0i : (0 : Int) < (t.length : Int) := by omega
    have cw : IntKind.i64.wrap (c + b) = c + b := by rw [IntKind.wrap_i64]; omega
    go_wp2_with fail
    go_quiet (fail)
    go_wp2_with fail
    refine tail_plain 15 (by kernel_rfl) (by kernel_rfl) ?_
    simp only [List.take_succ_cons, List.take_zero, List.drop_succ_cons, List.drop_zero]
    replace HX := Lib.hid ((HX.out.drewN nq).drewN 1)
    replace B4 := Lib.hid (below_drewN (below_drewN B4.out nq) 1)
    change (w4.drewN nq).drew.cell? _ = _ at hrow hcel
    change (w4.drewN nq).drew.frozen? _ = _ at hfrz
    change Hid (OwnU (w4.drewN nq).drew _ _ _ _) at HX
    change Hid (Below _ _ (w4.drewN nq).drew) at B4
    clear HO4 hcell0
    generalize (w4.drewN nq).drew = w5 at *
    repeat still_step
    refine wpStill_nil ?_
    have HX2 := Lib.hid (OwnU.setT HX.out hi HU.out j (c + b))
    have hgi : w3.heap.size ≤ gi := (HX.out.blk (.inr ⟨i, by rw [HX.out.len]; exact hi, by rw [HU.out]; rfl⟩)).1
    have B5 := Lib.hid (B4.out.setCell (p := ⟨gi, j, none⟩) (by simp; omega) (.int .i64 (c + b)))
    have LX : Hid (lensT (setT t i j (c + b))) := lens_same HTK.out (sameT_set (same_refl t) i j (c + b))
    go_wp2_with fail
    generalize hW6 : w5.setCell ⟨gi, j, none⟩ (.int .i64 (c + b)) = w6 at *
    with_reducible refine (iTableValid _ _ _ _ HX2.out.ints LX.out).mono ?_
    rintro e w7 ⟨rfl, rfl⟩
    by_cases hok : tblOk (setT t i j (c + b))
    · have D : Hid (decide (tblOk (setT t i j (c + b))) = true) := by unfold Hid; simpa using hok
      have HE : Hid (manyR (setT t i j (c + b)) b = m) := by
        rw [← HM.out]
        exact many_eq HSM.out (sameT_set (same_refl t) i j (c + b)) hok (cnt_shift HTK.out hok HSM.out.2.2.1 HSM.out.2.2.2 (sameT_set (same_refl t) i j (c + b)) i j HSC.out)
      rw [D.out]
      clear hok
      go_wp2_with fail
      with_reducible refine (iControlMany _ _ _ _ b HX2.out.ints LX.out).mono ?_
      rintro e w8 ⟨rfl, bl8⟩
      rw [HE.out]
      go_wp2_with fail
      go_ret
      exact ⟨rfl, bl1.trans ((B5.out.trans (bl8.mono B5.out.size)).mono bl1.size)⟩
    · have D : Hid (decide (tblOk (setT t i j (c + b))) = false) := by unfold Hid; simpa using hok
      rw [D.out]
      clear hok
      go_wp2_with fail
      go_ret
      exact ⟨rfl, bl1.trans (B5.out.mono bl1.size)⟩
  · have hm0 : m = -1 := by rw [← hm]; exact many_small hs
    subst hm0
    clear hm hs
    go_wp2_with fail
    go_ret
    exact ⟨rfl, bl1.trans (B3.out.mono bl1.size)⟩

end Go.Proofs.Ytnkgbgeffpeolaa
