/- Contract: how many roundings there are, in the reference. -/
import Derived.Test.YtnkgbgeffpeolaaSpecA
namespace Go.Proofs.Ytnkgbgeffpeolaa
open Go.RowKit

theorem below_of_keeps {w w1 w2 : World} {vx : Value} {xs : List Value} {X : List (List Int)} {bX : Nat} (h1 : Below w.heap.size w w1) (ho : OwnU w1 bX vx X xs) (hb : w.heap.size ≤ bX) (hk : Keeps (fun k => ¬ blksU vx xs k) w1 w2) : Below w.heap.size w w2 :=
  h1.trans (hk.below h1.size (fun k hk hb2 => by have := (ho.blk hb2).1; omega))

set_option maxHeartbeats 2000000 in
theorem sControlMany (w : World) (P : Nat → Prop) (v : Value) (t : List (List Int)) (b : Int) (h : IntSS w P v t) (hl : lensT t) :
    Calls Try.prog 12 #[v, .int .i64 b] w fun e w' => e = .returned (.int .i64 (manyR t b)) ∧ Below w.heap.size w w' := by
  have HT := Lib.hid (h.mono (Q := (· < w.heap.size)) (fun _ _ h => h))
  have HL := Lib.hid hl
  obtain ⟨a, cap, rfl, _, _⟩ := h
  clear hl
  go_enter Try.func12, Try.ntmps12
  go_wp2_with fail
  with_reducible refine (sOk _ _ _ t b HT.out HL.out).mono ?_
  rintro e w' ⟨rfl, n, rfl⟩
  by_cases hs : small t b
  · have D : Hid (decide (small t b) = true) := by unfold Hid; simpa using hs
    have HTK := Lib.hid hs.1
    have hb1 := hs.2.2.1
    have hb2 := hs.2.2.2
    have HR : Hid (manyR t b = ((roundL t b).length : Int)) := by unfold Hid manyR; rw [if_pos hs]; rfl
    have hcn : (roundL t b).length ≤ 512 := cnt_512 hs.2.1
    rw [D.out]
    clear hs
    go_wp2_with fail
    with_reducible refine (sCopy _ _ _ t (HT.out.drewN n) (lensR HTK.out).1 (lensR HTK.out).2).mono ?_
    rintro e w1 ⟨vx, us, rfl, ho, b1⟩
    have HO := Lib.hid ho
    obtain ⟨g, cp, rfl, hg, _, _, _⟩ := ho.form
    have b1' : Below w.heap.size w w1 := ⟨b1.os, b1.tape, b1.output, b1.size, b1.block⟩
    have HB := Lib.hid b1'
    have HNX : Hid (∀ k, k < w.heap.size → ¬ blksU (.slice (some ⟨g, 0, none⟩) t.length cp) us k) := fun k hk hb => by
      have := (ho.blk hb).1
      change w.heap.size ≤ k at this
      omega
    clear ho hg b1
    go_wp2_with fail
    with_reducible refine (sAll t b (· < w.heap.size) _ _ us _ HTK.out hb1 hb2 HNX.out (t.length * wid t 0) 0 rfl 0 rfl t w1 (HT.out.below b1') HO.out (same_refl t) (okTo_zero t b)).mono ?_
    rintro e w2 ⟨v2, us2, vs2, X2, rfl, hL, _, _, _, hk⟩
    have BF := Lib.hid (below_of_keeps HB.out HO.out (Nat.le_refl _) hk)
    obtain ⟨g2, cp2, rfl, _, _, _, _⟩ := hL.form
    change (roundL t b).length ≤ 512 at hcn
    have HE : Hid ((fillL t b (t.length * wid t 0) 0 t).length = (roundL t b).length) := rfl
    rw [HE.out]
    clear hL hk
    go_wp2_with fail
    go_ret
    exact ⟨by rw [HR.out]; rfl, BF.out⟩
  · have D : Hid (decide (small t b) = false) := by unfold Hid; simpa using hs
    have HR : Hid (manyR t b = -1) := by unfold Hid manyR; rw [if_neg hs]
    rw [D.out]
    clear hs
    go_wp2_with fail
    go_ret
    exact ⟨by rw [HR.out]; rfl, below_drewN (Below.refl _ _) n⟩

end Go.Proofs.Ytnkgbgeffpeolaa
