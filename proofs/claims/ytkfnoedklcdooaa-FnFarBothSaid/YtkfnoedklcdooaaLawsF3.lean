/- The walk of the law: a distance has both directions. -/
import Derived.Test.YtkfnoedklcdooaaLawsF2
import Derived.Test.YtkfnoedklcdooaaTotal
namespace Go.Proofs.Ytkfnoedklcdooaa
open Go.RowKit

/-- what TableTotal returns -/
def ttl (t : List (List Int)) : Int := if tblOk t then totalT t else -1
theorem ttl_bd {t : List (List Int)} (h : tblOk t) : 0 ≤ totalT t ∧ totalT t ≤ 16000 := by
  have h1 : ∀ i, i < t.length → 0 ≤ S (wid t 0) (cel t i) ∧ S (wid t 0) (cel t i) ≤ 4000 := by
    intro i hi
    have a := S_nonneg (n := wid t 0) (f := cel t i) (fun j hj => ((h.2.2.2.2 i hi).2 j hj).1)
    have b := S_le (n := wid t 0) (f := cel t i) (c := 1000) (fun j hj => by have := ((h.2.2.2.2 i hi).2 j hj).2; omega)
    have := h.2.2.2.1
    omega
  have a := S_nonneg (n := t.length) (fun i hi => (h1 i hi).1)
  have b := S_le (n := t.length) (fun i hi => (h1 i hi).2)
  have := h.2.1
  unfold totalT
  omega
theorem ttl_in (t : List (List Int)) : -1 ≤ ttl t ∧ ttl t ≤ 16000 := by
  unfold ttl
  split
  · rename_i h; have := ttl_bd h; omega
  · omega
theorem ttl_far {a b : List (List Int)} (hs : same a b) : ttl a < 0 ∨ ttl b < 0 ∨ (ttl a - ttl b ≤ farS a b ∧ ttl b - ttl a ≤ farS a b) := by
  by_cases ha : tblOk a
  · by_cases hb : tblOk b
    · right; right
      unfold ttl; rw [if_pos ha, if_pos hb]; exact farS_tot hs ha hb
    · right; left; unfold ttl; rw [if_neg hb]; omega
  · left; unfold ttl; rw [if_neg ha]; omega

set_option maxHeartbeats 2000000 in
theorem wFnFarBoth (a : Option Addr) (len cap : Nat) (z : List Int) (w : World) (h : IsRow .u8 w a len cap z) :
    Calls Try.prog 5 #[.slice a len cap] w fun e w' => e = .returned (.bool true) ∧ Below w.heap.size w w' := by
  have H := Lib.hid h; clear h
  by_cases hl : 1048576 < len
  · go_enter Try.func5, Try.ntmps5
    go_wp2_with fail
    go_ret
    exact ⟨rfl, Below.refl _ _⟩
  go_enter Try.func5, Try.ntmps5
  go_wp2_with fail
  refine (drawControlFar _ _ _ _ _ H.out).mono ?_
  rintro e w1 ⟨va, ta, vb, tb, rfl, ha, hb, da, db, b1⟩
  have HA := Lib.hid ha
  have HB := Lib.hid hb
  obtain ⟨xa, ca, rfl, hca, _⟩ := ha
  obtain ⟨xb, cb, rfl, _, _⟩ := hb
  have SA := Lib.hid da.out.small
  have SB := Lib.hid db.out.small
  by_cases hs : same ta tb
  · obtain ⟨f1, f2, f3⟩ := farOf_same SA.out SB.out hs
    obtain ⟨g1, _, _⟩ := farOf_same SB.out SA.out (same_comm hs)
    rw [farS_comm hs] at g1
    have hz := farS_zero hs
    have ht := ttl_far hs
    obtain ⟨f, hf⟩ : ∃ f, farS ta tb = f := ⟨_, rfl⟩
    rw [hf] at f1 f2 f3 g1 hz ht
    have HF := Lib.hid f1
    have HG := Lib.hid g1
    have HT := Lib.hid ht
    have HZ : Hid (decide (ta = tb) = (f == 0)) := by
      unfold Hid
      rw [Bool.eq_iff_iff]; simp only [decide_eq_true_eq, beq_iff_eq]; exact hz.symm
    obtain ⟨x, hx⟩ : ∃ x, ttl ta = x := ⟨_, rfl⟩
    obtain ⟨y, hy⟩ : ∃ y, ttl tb = y := ⟨_, rfl⟩
    have hxb := ttl_in ta
    have hyb := ttl_in tb
    rw [hx] at hxb HT
    rw [hy] at hyb HT
    have HX : Hid ((if tblOk ta then totalT ta else -1) = x) := hx
    have HY : Hid ((if tblOk tb then totalT tb else -1) = y) := hy
    obtain ⟨x1, x2⟩ := hxb
    obtain ⟨y1, y2⟩ := hyb
    clear f1 hs hf g1 hz ht hx hy
    go_wp2_with fail
    with_reducible refine (iFar_at _ _ _ _ _ ta tb f HA.out HB.out SA.out SB.out HF).mono ?_
    rintro e w2 ⟨rfl, b2⟩
    go_wp2_with fail
    with_reducible refine (sFar_at _ _ _ _ _ ta tb f (HA.out.below b2) (HB.out.below b2) SA.out SB.out HF).mono ?_
    rintro e w3' ⟨rfl, n3, rfl⟩
    have c2 : decide (f < 0) = false := by simp; omega
    have B3 : Below w1.heap.size w1 (w2.drewN n3) := below_drewN b2 n3
    generalize w2.drewN n3 = w3 at *
    go_wp2_with fail
    with_reducible refine (iTableTotal _ _ _ ta x (HA.out.below B3) SA.out.lens HX).mono ?_
    rintro e w4 ⟨rfl, b4⟩
    have B4 := B3.trans (b4.mono B3.size)
    go_wp2_with fail
    with_reducible refine (iTableTotal _ _ _ tb y (HB.out.below B4) SB.out.lens HY).mono ?_
    rintro e w5 ⟨rfl, b5⟩
    have B5 := B4.trans (b5.mono B4.size)
    go_wp2_with fail
    with_reducible refine (iFar_at _ _ _ _ _ tb ta f (HB.out.below B5) (HA.out.below B5) SB.out SA.out HG).mono ?_
    rintro e w6 ⟨rfl, b6⟩
    have B6 := B5.trans (b6.mono B5.size)
    go_wp2_with fail
    with_reducible refine (lSameRows _ _ _ _ _ ta tb (HA.out.below B6) (HB.out.below B6) SA.out.lens SB.out.lens).mono ?_
    rintro e w7 ⟨rfl, n7, rfl⟩
    rw [HZ.out]
    have BF := Lib.hid (b1.trans ((below_drewN B6 n7).mono b1.size))
    have cE : ((f == 0) == (f == 0)) = true := by simp
    rcases HT.out with h1 | h1 | ⟨h1, h2⟩
    · have d1 : decide (x < 0) = true := by simp; omega
      go_wp2_with fail
      go_ret
      exact ⟨rfl, BF.out⟩
    · by_cases hx0 : x < 0
      · have d1 : decide (x < 0) = true := by simp; omega
        go_wp2_with fail
        go_ret
        exact ⟨rfl, BF.out⟩
      · have d1 : decide (x < 0) = false := by simp; omega
        have d2 : decide (y < 0) = true := by simp; omega
        go_wp2_with fail
        go_ret
        exact ⟨rfl, BF.out⟩
    · by_cases hx0 : x < 0
      · have d1 : decide (x < 0) = true := by simp; omega
        go_wp2_with fail
        go_ret
        exact ⟨rfl, BF.out⟩
      · by_cases hy0 : y < 0
        · have d1 : decide (x < 0) = false := by simp; omega
          have d2 : decide (y < 0) = true := by simp; omega
          go_wp2_with fail
          go_ret
          exact ⟨rfl, BF.out⟩
        · have d1 : decide (x < 0) = false := by simp; omega
          have d2 : decide (y < 0) = false := by simp; omega
          have d3 : decide (x - y ≤ f) = true := by simp; omega
          have d4 : decide (y - x ≤ f) = true := by simp; omega
          go_wp2_with fail
          all_goals
            go_ret
            exact ⟨rfl, BF.out⟩
  · have HF := Lib.hid (farOf_diff hs)
    clear hs
    go_wp2_with fail
    with_reducible refine (iFar_at _ _ _ _ _ ta tb _ HA.out HB.out SA.out SB.out HF).mono ?_
    rintro e w2 ⟨rfl, b2⟩
    go_wp2_with fail
    with_reducible refine (sFar_at _ _ _ _ _ ta tb _ (HA.out.below b2) (HB.out.below b2) SA.out SB.out HF).mono ?_
    rintro e w3 ⟨rfl, n3, rfl⟩
    go_wp2_with fail
    go_ret
    exact ⟨rfl, below_drewN (b1.trans (b2.mono b1.size)) n3⟩

end Go.Proofs.Ytkfnoedklcdooaa
