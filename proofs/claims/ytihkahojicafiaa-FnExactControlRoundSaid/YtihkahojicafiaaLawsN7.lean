/- The walk of the law: the program's ControlRound equals the reference's. -/
import Derived.Test.YtihkahojicafiaaRoundA
import Derived.Test.YtihkahojicafiaaMarks
import Derived.Test.YtihkahojicafiaaIntss
import Derived.Test.YtihkahojicafiaaOpenT
namespace Go.Proofs.Ytihkahojicafiaa
open Go.RowKit

theorem lensN_small {t : List (List Int)} {b : Int} (h1 : t.length ≤ 1048576) (h : ∀ j, j < t.length → ((t[j]?.getD []).length : Int) ≤ b) (hb : b ≤ 1048576) : lensT t := by
  refine ⟨by omega, fun i => ?_⟩
  by_cases hi : i < t.length
  · have := h i hi; unfold wid; omega
  · unfold wid; rw [List.getElem?_eq_none (by omega)]; simp
theorem widN_small {t : List (List Int)} {b : Nat} (h : ∀ j, j < t.length → (t[j]?.getD []).length ≤ b) : ∀ r, wid t r ≤ b := by
  intro i
  by_cases hi : i < t.length
  · exact h i hi
  · unfold wid; rw [List.getElem?_eq_none (by omega)]; simp

set_option maxRecDepth 100000 in
set_option maxHeartbeats 4000000 in
theorem wFnExactControlRound (a : Option Addr) (len cap : Nat) (t : List (List Int)) (b : Int) (w : World) (h : ArgT w a len cap t) (_ : (Lit.int .i64 b).wf = true) :
    Calls Try.prog 6 #[.slice a len cap, .int .i64 b] w fun e w' => e = .returned (.bool true) ∧ Below w.heap.size w w' := by
  obtain ⟨g1, g2, g3, _⟩ := h
  have HI := Lib.hid g1
  unfold maxLen at g2 g3
  have H3 := Lib.hid g3
  clear g1 g3
  go_enter Try.func6, Try.ntmps6
  go_wp2_with fail
  with_reducible refine (lSzIntSS _ _ _ t 1048576 HI.out (by omega) (by omega) (by omega) H3.out).mono ?_
  rintro e w' ⟨r, rfl, rfl, r1, r2, hsz⟩
  by_cases hr : r < 0
  · clear hsz
    go_wp2_with fail
    go_ret
    exact ⟨rfl, Below.refl _ _⟩
  obtain ⟨s1, s2⟩ := hsz (by omega)
  have hl : t.length ≤ 1048576 := by omega
  have HL : Hid (∀ j, j < t.length → (t[j]?.getD []).length ≤ 1048576) := fun j hj => by have := s2 j hj; omega
  have HM : Hid (lensT t) := lensN_small hl s2 (by omega)
  have HWD : Hid (∀ r, wid t r ≤ 1048576) := widN_small HL.out
  have HNG : Hid (decide ((1 : Int) + (offT t t.length : Int) < 0) = false) := by unfold Hid; simp; omega
  clear s1 s2
  go_wp2_with fail
  with_reducible refine (lToIntSS _ _ _ t HI.out hl HL.out).mono ?_
  rintro e w1 ⟨v1, us1, rfl, o1, b1⟩
  go_wp2_with fail
  with_reducible refine (sControlRound _ _ _ t b o1.ints HM.out).mono ?_
  rintro e w2 ⟨b2, hS⟩
  have B2 := Lib.hid (b1.trans (b2.mono b1.size))
  clear o1 b1 b2
  have HWS : Hid (w.heap.size ≤ w2.heap.size) := B2.out.size
  have HZ0 : Hid ((1 : Int) + (offT ([] : List (List Int)) ([] : List (List Int)).length : Int) = 1) := rfl
  rcases hS with ⟨hn, g2, rfl, o2⟩ | ⟨hs, g2, c2, u2, rfl, o2⟩
  · have HWB : Hid (∀ k, blksU (.slice (some ⟨g2, 0, none⟩) 0 0) [] k → k < w2.heap.size) := fun k hk => (o2.blk hk).2
    have HN := Lib.hid hn
    clear hn
    go_wp2_with fail
    with_reducible refine (lToIntSS _ _ _ t (HI.out.below B2.out) hl HL.out).mono ?_
    rintro e w3 ⟨v3, us3, rfl, o3, b3⟩
    have B3 := Lib.hid (B2.out.trans (b3.mono B2.out.size))
    obtain ⟨gx, cx, rfl, _, _, _, _⟩ := id o3.form
    have HXB : Hid (∀ k, blksU (.slice (some ⟨gx, 0, none⟩) t.length cx) us3 k → w2.heap.size ≤ k ∧ k < w3.heap.size) := fun k hk => o3.blk hk
    have O3 := Lib.hid o3
    have W3 := Lib.hid (o2.below b3)
    have hs23 := b3.size
    clear o3 o2 b3
    go_wp2_with fail
    with_reducible refine (iControlRound _ _ _ t b O3.out.ints HM.out).mono ?_
    rintro e w4 ⟨b4, hI⟩
    have B4 := Lib.hid (B3.out.trans (b4.mono B3.out.size))
    have X4 := Lib.hid (O3.out.below b4)
    have W4 := Lib.hid (W3.out.below b4)
    rcases hI with ⟨_, rfl⟩ | ⟨hs, _⟩
    rotate_left
    · exact absurd hs HN.out
    clear b4 O3 W3 B3 B2
    go_wp2_with fail
    with_reducible refine (lEqIntSS _ _ _ _ _ [] (nilSS _) (W4.out.ints) (by simp) (by simp)).mono ?_
    rintro e w' ⟨rfl, n5, rfl⟩
    replace B4 := Lib.hid (below_drewN B4.out n5)
    replace X4 := Lib.hid (X4.out.drewN n5)
    replace W4 := Lib.hid (W4.out.drewN n5)
    generalize w4.drewN n5 = w4 at *
    go_wp2_with fail
    with_reducible refine (lToIntSS _ _ _ t (HI.out.below B4.out) hl HL.out).mono ?_
    rintro e w5 ⟨v5, us5, rfl, o5, b5⟩
    have B5 := Lib.hid (B4.out.trans (b5.mono B4.out.size))
    have X5 := Lib.hid (X4.out.below b5)
    have W5 := Lib.hid (W4.out.below b5)
    have O5 := Lib.hid o5
    clear o5 b5 B4 X4 W4
    go_wp2_with fail
    with_reducible refine (lEqIntSS _ _ _ _ _ t X5.out.ints O5.out.ints hl HL.out).mono ?_
    rintro e w' ⟨rfl, n6, rfl⟩
    clear O5
    replace B5 := Lib.hid (below_drewN B5.out n6)
    replace X5 := Lib.hid (X5.out.drewN n6)
    replace W5 := Lib.hid (W5.out.drewN n6)
    generalize w5.drewN n6 = w5 at *
    go_wp2_with fail
    with_reducible refine (lMarkIntSS _ _ gx _ cx t us3 X5.out hl HWD.out).mono ?_
    rintro e w6 ⟨rfl, T6, x6, _, _, _, k6⟩
    have B6 : Hid (Below w.heap.size w w6) := B5.out.trans (k6.below B5.out.size (fun k hk hb => by have := HXB.out k hb; have := HWS.out; omega))
    have W6 := Lib.hid (W5.out.keeps k6 (fun k hk hb => by have := HXB.out k hb; have := HWB.out k hk; omega))
    have c1 := HNG.out
    generalize (1 : Int) + (offT t t.length : Int) = m1 at *
    clear k6 x6 B5 X5 W5
    go_wp2_with fail
    with_reducible refine (lEqIntSS _ _ _ _ _ [] (nilSS _) (W6.out.ints) (by simp) (by simp)).mono ?_
    rintro e w' ⟨rfl, n7, rfl⟩
    replace B6 := Lib.hid (below_drewN B6.out n7)
    replace W6 := Lib.hid (W6.out.drewN n7)
    generalize w6.drewN n7 = w6 at *
    go_wp2_with fail
    with_reducible refine (lMarkNil _).mono ?_
    rintro e w' ⟨rfl, rfl⟩
    go_wp2_with fail
    with_reducible refine (lHeldIntSS _ _ _ [] (nilSS _) (fun r q h => by simp at h) (by simp) (fun r => by simp [wid])).mono ?_
    rintro e w' ⟨rfl, rfl⟩
    rw [HZ0.out]
    have B7 := B6
    have W7 := W6
    clear B6 W6
    go_wp2_with fail
    with_reducible refine (lToIntSS _ _ _ t (HI.out.below B7.out) hl HL.out).mono ?_
    rintro e w8 ⟨v8, us8, rfl, o8, b8⟩
    have B8 := Lib.hid (B7.out.trans (b8.mono B7.out.size))
    have W8 := Lib.hid (W7.out.below b8)
    have O8 := Lib.hid o8
    clear o8 b8 B7 W7
    go_wp2_with fail
    with_reducible refine (iControlRound _ _ _ t b O8.out.ints HM.out).mono ?_
    rintro e w9 ⟨b9, hI⟩
    have B9 := Lib.hid (B8.out.trans (b9.mono B8.out.size))
    have W9 := Lib.hid (W8.out.below b9)
    rcases hI with ⟨_, rfl⟩ | ⟨hs, _⟩
    rotate_left
    · exact absurd hs HN.out
    go_wp2_with fail
    with_reducible refine (lEqIntSS _ _ _ _ _ [] (nilSS _) W9.out.ints (by simp) (by simp)).mono ?_
    rintro e w' ⟨rfl, n9, rfl⟩
    go_wp2_with fail
    with_reducible refine (lHeldIntSS _ _ _ [] (nilSS _) (fun r q h => by simp at h) (by simp) (fun r => by simp [wid])).mono ?_
    rintro e w' ⟨rfl, rfl⟩
    rw [HZ0.out]
    go_wp2_with fail
    go_ret
    exact ⟨rfl, below_drewN B9.out _⟩
  · have HWB : Hid (∀ k, blksU (.slice (some ⟨g2, 0, none⟩) t.length c2) u2 k → k < w2.heap.size) := fun k hk => (o2.blk hk).2
    have HSM := Lib.hid hs
    have HF := Lib.hid (near_fits hs.1 hs.2.2.1 hs.2.2.2)
    have LR := lensR_same hs.1 HF.out.2.2.1
    obtain ⟨Y, hY⟩ : ∃ Y, nearR t b = Y := ⟨_, rfl⟩
    rw [hY] at o2 HF LR
    have HNY := Lib.hid hY
    have hyl : Y.length ≤ 1048576 := by omega
    have HYJ : Hid (∀ j, j < Y.length → (Y[j]?.getD []).length ≤ 1048576) := fun j hj => by have := (LR.2 j hj).2; omega
    have HYW : Hid (∀ r, wid Y r ≤ 1048576) := widN_small HYJ.out
    have HNY2 : Hid (decide ((1 : Int) + (offT Y Y.length : Int) < 0) = false) := by unfold Hid; simp; omega
    clear LR hY hs
    go_wp2_with fail
    with_reducible refine (lToIntSS _ _ _ t (HI.out.below B2.out) hl HL.out).mono ?_
    rintro e w3 ⟨v3, us3, rfl, o3, b3⟩
    have B3 := Lib.hid (B2.out.trans (b3.mono B2.out.size))
    obtain ⟨gx, cx, rfl, _, _, _, _⟩ := id o3.form
    have HXB : Hid (∀ k, blksU (.slice (some ⟨gx, 0, none⟩) t.length cx) us3 k → w2.heap.size ≤ k ∧ k < w3.heap.size) := fun k hk => o3.blk hk
    have O3 := Lib.hid o3
    have W3 := Lib.hid (o2.below b3)
    have hs23 := b3.size
    clear o3 o2 b3
    go_wp2_with fail
    with_reducible refine (iControlRound _ _ _ t b O3.out.ints HM.out).mono ?_
    rintro e w4 ⟨b4, hI⟩
    have B4 := Lib.hid (B3.out.trans (b4.mono B3.out.size))
    have X4 := Lib.hid (O3.out.below b4)
    have W4 := Lib.hid (W3.out.below b4)
    rcases hI with ⟨hn, _⟩ | ⟨_, gy, cy, uy, rfl, hy⟩
    · exact absurd HSM.out hn
    rw [HNY.out] at hy
    have HGB : Hid (∀ k, blksU (.slice (some ⟨gy, 0, none⟩) t.length cy) uy k → w3.heap.size ≤ k) := fun k hk => (hy.blk hk).1
    have G4 := Lib.hid hy
    clear hy
    clear b4 O3 W3 B3 B2
    go_wp2_with fail
    with_reducible refine (lEqIntSS _ _ _ _ _ Y (G4.out.ints) (W4.out.ints) hyl HYJ.out).mono ?_
    rintro e w' ⟨rfl, n5, rfl⟩
    replace B4 := Lib.hid (below_drewN B4.out n5)
    replace X4 := Lib.hid (X4.out.drewN n5)
    replace W4 := Lib.hid (W4.out.drewN n5)
    replace G4 := Lib.hid (G4.out.drewN n5)
    generalize w4.drewN n5 = w4 at *
    go_wp2_with fail
    with_reducible refine (lToIntSS _ _ _ t (HI.out.below B4.out) hl HL.out).mono ?_
    rintro e w5 ⟨v5, us5, rfl, o5, b5⟩
    have B5 := Lib.hid (B4.out.trans (b5.mono B4.out.size))
    have X5 := Lib.hid (X4.out.below b5)
    have W5 := Lib.hid (W4.out.below b5)
    have G5 := Lib.hid (G4.out.below b5)
    have O5 := Lib.hid o5
    clear o5 b5 B4 X4 W4 G4
    go_wp2_with fail
    with_reducible refine (lEqIntSS _ _ _ _ _ t X5.out.ints O5.out.ints hl HL.out).mono ?_
    rintro e w' ⟨rfl, n6, rfl⟩
    clear O5
    replace B5 := Lib.hid (below_drewN B5.out n6)
    replace X5 := Lib.hid (X5.out.drewN n6)
    replace W5 := Lib.hid (W5.out.drewN n6)
    replace G5 := Lib.hid (G5.out.drewN n6)
    generalize w5.drewN n6 = w5 at *
    go_wp2_with fail
    with_reducible refine (lMarkIntSS _ _ gx _ cx t us3 X5.out hl HWD.out).mono ?_
    rintro e w6 ⟨rfl, T6, x6, _, _, _, k6⟩
    have B6 : Hid (Below w.heap.size w w6) := B5.out.trans (k6.below B5.out.size (fun k hk hb => by have := HXB.out k hb; have := HWS.out; omega))
    have W6 := Lib.hid (W5.out.keeps k6 (fun k hk hb => by have := HXB.out k hb; have := HWB.out k hk; omega))
    have G6 := Lib.hid (G5.out.keeps k6 (fun k hk hb => by have := HXB.out k hb; have := HGB.out k hk; omega))
    have c1 := HNG.out
    generalize (1 : Int) + (offT t t.length : Int) = m1 at *
    clear k6 x6 B5 X5 W5 G5
    go_wp2_with fail
    with_reducible refine (lEqIntSS _ _ _ _ _ Y (G6.out.ints) (W6.out.ints) hyl HYJ.out).mono ?_
    rintro e w' ⟨rfl, n7, rfl⟩
    replace B6 := Lib.hid (below_drewN B6.out n7)
    replace W6 := Lib.hid (W6.out.drewN n7)
    replace G6 := Lib.hid (G6.out.drewN n7)
    generalize w6.drewN n7 = w6 at *
    go_wp2_with fail
    with_reducible refine (lMarkIntSS _ _ gy _ cy Y uy G6.out hyl HYW.out).mono ?_
    rintro e w7 ⟨rfl, T7, x7, hl7, hw7, hc7, k7⟩
    have HC7 : Hid (∀ r q, r < T7.length → q < wid T7 r → cel T7 r q = 1 + (offT T7 r : Int) + (q : Int)) := fun r q hr hq => by rw [offT_congr hw7]; exact hc7 r q (by rw [← hl7]; exact hr) (by rw [← hw7]; exact hq)
    have HT7 : Hid ((1 : Int) + (offT T7 T7.length : Int) = 1 + (offT Y Y.length : Int)) := by unfold Hid; rw [offT_congr hw7, hl7]
    have hl7b : T7.length ≤ 1048576 := by omega
    have HW7 : Hid (∀ r, wid T7 r ≤ 1048576) := fun r => by rw [hw7]; exact HYW.out r
    have B7 : Hid (Below w.heap.size w w7) := B6.out.trans (k7.below B6.out.size (fun k hk hb => by have := HGB.out k hb; have := HWS.out; omega))
    have W7 := Lib.hid (W6.out.keeps k7 (fun k hk hb => by have := HGB.out k hb; have := HWB.out k hk; omega))
    have G7 := Lib.hid x7
    have c2 := HNY2.out
    generalize hm2 : (1 : Int) + (offT Y Y.length : Int) = m2 at *
    clear k7 x7 hc7 hl7 hw7 B6 W6 G6 hm2
    go_wp2_with fail
    with_reducible refine (lHeldIntSS _ _ _ T7 G7.out.ints HC7.out hl7b HW7.out).mono ?_
    rintro e w' ⟨rfl, rfl⟩
    rw [HT7.out]
    go_wp2_with fail
    with_reducible refine (lToIntSS _ _ _ t (HI.out.below B7.out) hl HL.out).mono ?_
    rintro e w8 ⟨v8, us8, rfl, o8, b8⟩
    have B8 := Lib.hid (B7.out.trans (b8.mono B7.out.size))
    have W8 := Lib.hid (W7.out.below b8)
    have G8 := Lib.hid (G7.out.below b8)
    have O8 := Lib.hid o8
    clear o8 b8 B7 W7
    go_wp2_with fail
    with_reducible refine (iControlRound _ _ _ t b O8.out.ints HM.out).mono ?_
    rintro e w9 ⟨b9, hI⟩
    have B9 := Lib.hid (B8.out.trans (b9.mono B8.out.size))
    have W9 := Lib.hid (W8.out.below b9)
    have G9 := Lib.hid (G8.out.below b9)
    rcases hI with ⟨hn, _⟩ | ⟨_, gh, ch, uh, rfl, hy⟩
    · exact absurd HSM.out hn
    rw [HNY.out] at hy
    have A9 := Lib.hid hy
    clear hy
    go_wp2_with fail
    with_reducible refine (lEqIntSS _ _ _ _ _ Y A9.out.ints W9.out.ints hyl HYJ.out).mono ?_
    rintro e w' ⟨rfl, n9, rfl⟩
    go_wp2_with fail
    with_reducible refine (lHeldIntSS _ _ _ T7 (G9.out.drewN n9).ints HC7.out hl7b HW7.out).mono ?_
    rintro e w' ⟨rfl, rfl⟩
    rw [HT7.out]
    go_wp2_with fail
    go_ret
    exact ⟨rfl, below_drewN B9.out _⟩

end Go.Proofs.Ytihkahojicafiaa
