/- SpecC, SpecC2, SpecF, FitA, DrawF in one text. (Put together by wip/tools/merge.py.) -/
import Derived.Test.YtigdgcpjkeaooaaFarP
import Derived.Test.YtigdgcpjkeaooaaFitP
import Derived.Deep.QuietTactic
import Derived.BigQuiet
import Derived.Test.YtigdgcpjkeaooaaSpecN
import Derived.Test.YtigdgcpjkeaooaaSpecV
import Derived.Test.YtigdgcpjkeaooaaRoundA
namespace Go.Proofs.Ytigdgcpjkeaooaa
open Go.RowKit

/-- the cell of x is a rounding of that of t, as the reference asks -/
def cS (b c x : Int) : Prop := x.tmod b = 0 ∧ max (x - c) (c - x) < b
instance (b c x : Int) : Decidable (cS b c x) := by unfold cS; infer_instance
def cellsS (t x : List (List Int)) (b : Int) : Prop := ∀ i, i < t.length → wid x i = wid t i ∧ ∀ j, j < wid t i → cS b (cel t i j) (cel x i j)
instance (t x : List (List Int)) (b : Int) : Decidable (cellsS t x b) := by unfold cellsS; infer_instance

set_option maxRecDepth 100000 in
set_option maxHeartbeats 2000000 in
theorem sCells (w : World) (P Q : Nat → Prop) (v u : Value) (t x : List (List Int)) (b : Int) (h : IntSS w P v t) (h2 : IntSS w Q u x) (ht : smallT t) (hx : smallT x) (hl : x.length = t.length) (hb : 2 ≤ b) (hb2 : b ≤ 20) :
    Calls Try.prog 29 #[v, u, .int .i64 b] w fun e w' => e = .returned (.bool (decide (cellsS t x b))) ∧ ∃ n, w' = w.drewN n := by
  obtain ⟨a, cap, rfl, _, hr⟩ := h
  obtain ⟨a2, cap2, rfl, _, hr2⟩ := h2
  have HR := Lib.hid hr
  have HR2 := Lib.hid hr2
  have HT := Lib.hid ht
  have HX := Lib.hid hx
  have hbz : b ≠ 0 := by omega
  have ht4 : t.length ≤ 4 := HT.out.1
  have HL := Lib.hid hl
  clear hr hr2 ht hx
  rw [hl]
  clear hl
  go_enter Try.func29, Try.ntmps29
  go_wp2_with fail
  go_loopw [7] (fun i wr => ∃ (k n : Nat), k ≤ t.length ∧ i = .int .i64 k ∧ Hid (∀ i, i < k → wid x i = wid t i ∧ ∀ j, j < wid t i → cS b (cel t i j) (cel x i j)) ∧ Hid (wr = w.drewN n)) (fun i _ => t.length - (intOf i).toNat)
  case atStart => exact ⟨0, 0, Nat.zero_le _, rfl, fun i h => by omega, rfl⟩
  case round =>
    obtain ⟨k, n, hk, rfl, HM, HWR⟩ := hrel
    by_cases hlt : k < t.length
    · have R1 : Hid (RowsIn wr P a t) := by unfold Hid; rw [HWR.out]; exact HR.out
      have R2 : Hid (RowsIn wr Q a2 x) := by unfold Hid; rw [HWR.out]; exact HR2.out
      obtain ⟨b1, o1, ai, ci, rfl, _, hc1, hri1⟩ := R1.out.rowW hlt
      obtain ⟨b2, o2, aj, cj, rfl, _, hc2, hri2⟩ := R2.out.rowW (i := k) (by rw [HL.out]; exact hlt)
      have RI1 := Lib.hid hri1
      have RI2 := Lib.hid hri2
      have hki : (k : Int) < (t.length : Int) := by omega
      have TB := Lib.hid (HT.out.2 k hlt)
      have XB := Lib.hid (HX.out.2 k (by rw [HL.out]; exact hlt))
      have wb1 := (HT.out.2 k hlt).1
      clear hri1 hri2
      obtain ⟨m, hm⟩ : ∃ m, wid t k = m := ⟨_, rfl⟩
      obtain ⟨m2, hm2⟩ : ∃ m, wid x k = m := ⟨_, rfl⟩
      have HMM := Lib.hid hm
      have HMM2 := Lib.hid hm2
      rw [hm] at hc1 wb1
      rw [hm2] at hc2
      clear hm hm2
      by_cases hww : m2 = m
      · subst hww
        go_wp2_with fail
        go_quiet (fail)
        go_wp2_with fail
        have HWN : Hid (wr.drewN nq = w.drewN (n + nq)) := by unfold Hid; rw [HWR.out, World.drewN_drewN]
        have C1 : Hid (w.cell? ⟨b1, o1 + k, none⟩ = some (.slice ai m2 ci)) := by have := hc1; rw [HWR.out] at this; exact this
        have C2 : Hid (w.cell? ⟨b2, o2 + k, none⟩ = some (.slice aj m2 cj)) := by have := hc2; rw [HWR.out] at this; exact this
        have I1 : Hid (RowIn w P ai (t[k]?.getD [])) := by have := RI1.out; rw [HWR.out] at this; exact this
        have I2 : Hid (RowIn w Q aj (x[k]?.getD [])) := by have := RI2.out; rw [HWR.out] at this; exact this
        clear hc1 hc2 R1 R2 RI1 RI2 HWR
        generalize n + nq = n at *
        generalize wr.drewN nq = wr at *
        go_loopw [8] (fun j wq => ∃ (q n2 : Nat), q ≤ m2 ∧ j = .int .i64 q ∧ Hid (∀ j, j < q → cS b (cel t k j) (cel x k j)) ∧ Hid (wq = w.drewN n2)) (fun j _ => m2 - (intOf j).toNat)
        case atStart => exact ⟨0, n, Nat.zero_le _, rfl, fun j h => by omega, HWN⟩
        case round =>
          clear HWN
          obtain ⟨q, n2, hq, rfl, HQ, HW2⟩ := hrel
          have hc1 := C1.out
          have hc2 := C2.out
          by_cases hqlt : q < m2
          · obtain ⟨p1, f1, rfl, _, d1⟩ := I1.out q (by have := HMM.out; unfold wid at this; omega)
            obtain ⟨p2, f2, rfl, _, d2⟩ := I2.out q (by have := HMM2.out; unfold wid at this; omega)
            have e1 := TB.out.2 q (by rw [HMM.out]; exact hqlt)
            have e2 := XB.out.2 q (by rw [HMM2.out]; exact hqlt)
            change w.cell? _ = some (.int .i64 (cel t k q)) at d1
            change w.cell? _ = some (.int .i64 (cel x k q)) at d2
            obtain ⟨c, hce⟩ : ∃ c, cel t k q = c := ⟨_, rfl⟩
            obtain ⟨y, hye⟩ : ∃ c, cel x k q = c := ⟨_, rfl⟩
            rw [hce] at d1 e1
            rw [hye] at d2 e2
            have qi : (q : Int) < (m2 : Int) := by omega
            have cw1 : IntKind.i64.wrap (y - c) = y - c := by rw [IntKind.wrap_i64]; omega
            have cw2 : IntKind.i64.wrap (c - y) = c - y := by rw [IntKind.wrap_i64]; omega
            have HCE := Lib.hid hce
            have HYE := Lib.hid hye
            obtain ⟨r, hr⟩ : ∃ r, y.tmod b = r := ⟨_, rfl⟩
            have HRE := Lib.hid hr
            clear hce hye
            rw [HW2.out]
            by_cases hr0 : r = 0
            · have cr : (r != 0) = false := by simp [hr0]
              by_cases hm : b ≤ max (y - c) (c - y)
              · have D : Hid (decide (cellsS t x b) = false) := decide_eq_false (fun hc => by have := ((hc k hlt).2 q (by rw [HMM.out]; exact hqlt)).2; rw [HCE.out, HYE.out] at this; omega)
                clear hr0
                go_wp2_with fail
                go_quiet (fail)
                go_wp2_with fail
                all_goals
                  go_ret
                  exact ⟨ret_b D.out.symm, n2 + nq, by first | rfl | rw [World.drewN_drewN]⟩
              · have HN : Hid (∀ j, j < q + 1 → cS b (cel t k j) (cel x k j)) := fun j hj => by
                  by_cases e : j = q
                  · rw [e, HCE.out, HYE.out]; exact ⟨by rw [HRE.out]; exact hr0, by omega⟩
                  · exact HQ.out j (by omega)
                clear hr0
                go_wp2_with fail
                go_quiet (fail)
                go_wp2_with fail
                all_goals
                  go_roundw
                  case rel => exact ⟨q + 1, n2 + nq, by omega, by go_num, HN, rfl⟩
                  case measure => simp [intOf]; omega
            · have cr : (r != 0) = true := by simp [hr0]
              have D : Hid (decide (cellsS t x b) = false) := decide_eq_false (fun hc => by have := ((hc k hlt).2 q (by rw [HMM.out]; exact hqlt)).1; rw [HYE.out, HRE.out] at this; exact hr0 this)
              clear hr0
              go_wp2_with fail
              go_quiet (fail)
              go_wp2_with fail
              go_ret
              exact ⟨ret_b D.out.symm, n2 + nq, by first | rfl | rw [World.drewN_drewN]⟩
          · have HN : Hid (∀ i, i < k + 1 → wid x i = wid t i ∧ ∀ j, j < wid t i → cS b (cel t i j) (cel x i j)) := fun i hi => by
              by_cases e : i = k
              · rw [e]; exact ⟨by rw [HMM.out, HMM2.out], fun j hj => HQ.out j (by have h9 := HMM.out; have h10 : ¬ q < m2 := hqlt; omega)⟩
              · exact HM.out i (by omega)
            rw [HW2.out]
            have d9 : decide ((q : Int) < (m2 : Int)) = false := by simp; omega
            go_wp2_with fail
            go_roundw
            case rel => exact ⟨k + 1, n2, by omega, by go_num, HN, rfl⟩
            case measure => simp [intOf]; omega
      · have ce : ((m2 : Int) != (m : Int)) = true := by simp; omega
        have D : Hid (decide (cellsS t x b) = false) := decide_eq_false (fun hc => hww (by rw [← HMM.out, ← HMM2.out]; exact (hc k hlt).1))
        go_wp2_with fail
        go_quiet (fail)
        go_wp2_with fail
        go_ret
        exact ⟨ret_b D.out.symm, n + nq, by rw [HWR.out, World.drewN_drewN]⟩
    · have D : Hid (decide (cellsS t x b) = true) := decide_eq_true (fun i hi => HM.out i (by omega))
      go_wp2_with fail
      go_ret
      exact ⟨ret_b D.out.symm, n, HWR.out⟩

end Go.Proofs.Ytigdgcpjkeaooaa

namespace Go.Proofs.Ytigdgcpjkeaooaa

theorem cS_iff {b c x : Int} (hb : 2 ≤ b) (hc : 0 ≤ c) : cS b c x ↔ cOk b c x := by
  have hd := dn_bd hb hc
  have hdv : b ∣ dn b c := by unfold dn; exact ⟨c / b, by have := Int.emod_add_mul_ediv c b; omega⟩
  unfold cS cOk
  rw [← Int.dvd_iff_tmod_eq_zero]
  constructor
  · rintro ⟨h1, h2⟩
    obtain ⟨n, hn⟩ := Int.dvd_sub h1 hdv
    have n1 : -1 < n := by
      refine Int.lt_of_mul_lt_mul_left (a := b) ?_ (by omega)
      omega
    have n2 : n < 2 := by
      refine Int.lt_of_mul_lt_mul_left (a := b) ?_ (by omega)
      omega
    rcases (show n = 0 ∨ n = 1 by omega) with rfl | rfl
    · left; omega
    · right; omega
  · rintro (h | ⟨h, h2⟩)
    · rw [h]; exact ⟨hdv, by omega⟩
    · rw [h]; exact ⟨Int.dvd_add hdv ⟨1, by omega⟩, by omega⟩
theorem cellsS_iff {t x : List (List Int)} {b : Int} (ht : tblOk t) (hl : x.length = t.length) (hb : 2 ≤ b) : cellsS t x b ↔ same t x ∧ cellsFit t x b := by
  constructor
  · intro h
    refine ⟨⟨hl.symm, fun i hi => ((h i hi).1).symm⟩, fun i hi j hj => ?_⟩
    exact (cS_iff hb ((ht.2.2.2.2 i hi).2 j hj).1).1 ((h i hi).2 j (by rw [(ht.2.2.2.2 i hi).1]; exact hj))
  · rintro ⟨hs, hc⟩ i hi
    refine ⟨(hs.2 i hi).symm, fun j hj => ?_⟩
    rw [(ht.2.2.2.2 i hi).1] at hj
    exact (cS_iff hb ((ht.2.2.2.2 i hi).2 j hj).1).2 (hc i hi j hj)

end Go.Proofs.Ytigdgcpjkeaooaa

namespace Go.Proofs.Ytigdgcpjkeaooaa
open Go.RowKit

set_option maxRecDepth 100000 in
set_option maxHeartbeats 2000000 in
theorem sControlFits (w : World) (P Q : Nat → Prop) (v u : Value) (t x : List (List Int)) (b : Int) (h : IntSS w P v t) (h2 : IntSS w Q u x) (lt : lensT t) (hx : smallT x) (hl : x.length = t.length) (hb : 2 ≤ b) (hb2 : b ≤ 20) (ht : tblOk t) :
    Calls Try.prog 8 #[v, u, .int .i64 b] w fun e w' => e = .returned (.bool (decide (Fits t x b))) ∧ Below w.heap.size w w' := by
  have HT := Lib.hid h
  have HX := Lib.hid h2
  have HL := Lib.hid lt
  have HTK := Lib.hid ht
  have HSX := Lib.hid hx
  have HLE := Lib.hid hl
  obtain ⟨a, cap, rfl, _, _⟩ := h
  obtain ⟨a2, cap2, rfl, _, _⟩ := h2
  clear lt ht hx
  have ce : ((x.length : Int) != (t.length : Int)) = false := by simp; omega
  clear hl
  go_enter Try.func8, Try.ntmps8
  go_wp2_with fail
  with_reducible refine (sTableValid _ _ _ t HT.out HL.out).mono ?_
  rintro e w' ⟨rfl, n, rfl⟩
  rw [decide_eq_true HTK.out]
  go_wp2_with fail
  with_reducible refine (sIn_t _ _ _ _ hb hb2).mono ?_
  rintro e w' ⟨rfl, rfl⟩
  go_wp2_with fail
  with_reducible refine (sCells _ _ _ _ _ t x b (HT.out.drewN n) (HX.out.drewN n) HTK.out.small HSX.out HLE.out hb hb2).mono ?_
  rintro e w' ⟨rfl, m, rfl⟩
  by_cases hc : cellsS t x b
  · rw [decide_eq_true hc]
    obtain ⟨hs, hcf⟩ := (cellsS_iff HTK.out HLE.out hb).1 hc
    have hrx : rectS x := by
      have hw : wid x 0 = wid t 0 := (hs.2 0 (by have := HTK.out.1; omega)).symm
      have hk := HTK.out
      refine ⟨by rw [HLE.out]; exact hk.1, by rw [HLE.out]; exact hk.2.1, by rw [hw]; exact hk.2.2.1, by rw [hw]; exact hk.2.2.2.1, fun i hi => ?_⟩
      rw [HLE.out] at hi
      refine ⟨by rw [← hs.2 i hi, hw]; exact (hk.2.2.2.2 i hi).1, fun j hj => ?_⟩
      rw [hw] at hj
      have hcb := (hk.2.2.2.2 i hi).2 j hj
      have h1 := dn_bd hb hcb.1
      have h2 := hcf i hi j hj
      unfold cOk at h2
      omega
    have HSS := Lib.hid hs
    have HRX := Lib.hid hrx
    have D : Hid (decide (sumsFit t x b) = decide (Fits t x b)) := decide_eq_decide.2 ⟨fun h => ⟨HTK.out, ⟨hb, hb2⟩, hs, hcf, h⟩, fun h => h.2.2.2.2⟩
    clear hc hs hcf hrx
    go_wp2_with fail
    with_reducible refine (sNear _ _ _ _ _ t x b (HT.out.drewN _) (HX.out.drewN _) HTK.out.rectS HRX.out HSS.out hb hb2).mono ?_
    rintro e w' ⟨rfl, bl⟩
    rw [D.out]
    go_wp2_with fail
    go_ret
    exact ⟨rfl, (below_drewN (Below.refl _ w) _).trans bl⟩
  · have D : Hid (decide (Fits t x b) = false) := decide_eq_false (fun h => hc ((cellsS_iff HTK.out HLE.out hb).2 ⟨h.2.2.1, h.2.2.2.1⟩))
    rw [decide_eq_false hc]
    clear hc
    go_wp2_with fail
    go_ret
    exact ⟨ret_b D.out.symm, below_drewN (Below.refl _ w) _⟩

end Go.Proofs.Ytigdgcpjkeaooaa

namespace Go.Proofs.Ytigdgcpjkeaooaa
open Go.RowKit

theorem lens_same' {t x : List (List Int)} (h : lensT t) (hs : same t x) : lensT x := by
  refine ⟨by rw [← hs.1]; exact h.1, fun i => ?_⟩
  by_cases hi : i < t.length
  · rw [← hs.2 i hi]; exact h.2 i
  · unfold wid; rw [List.getElem?_eq_none (by rw [← hs.1]; omega)]; simp

set_option maxRecDepth 100000 in
set_option maxHeartbeats 1000000 in
theorem sFitsAny (w : World) (P Q : Nat → Prop) (v u : Value) (t x : List (List Int)) (b : Int) (h : IntSS w P v t) (h2 : IntSS w Q u x) (lt : lensT t) (hx : smallT x) (hl : x.length = t.length) :
    Calls Try.prog 8 #[v, u, .int .i64 b] w fun e w' => e = .returned (.bool (decide (Fits t x b))) ∧ Below w.heap.size w w' := by
  by_cases ht : tblOk t
  · by_cases hb : 2 ≤ b ∧ b ≤ 20
    · exact sControlFits w P Q v u t x b h h2 lt hx hl hb.1 hb.2 ht
    · have D : Hid (decide (Fits t x b) = false) := decide_eq_false (fun h => hb h.2.1)
      have hbb : b < 2 ∨ 20 < b := by omega
      have HT := Lib.hid h
      have HL := Lib.hid lt
      obtain ⟨a, cap, rfl, _, _⟩ := h
      obtain ⟨a2, cap2, rfl, _, _⟩ := h2
      have HTK := Lib.hid ht
      rw [D.out]
      clear lt hx hl ht hb D
      go_enter Try.func8, Try.ntmps8
      go_wp2_with fail
      with_reducible refine (sTableValid _ _ _ t HT.out HL.out).mono ?_
      rintro e w' ⟨rfl, n, rfl⟩
      rw [decide_eq_true HTK.out]
      go_wp2_with fail
      with_reducible refine (sIn_f _ _ _ _ hbb).mono ?_
      rintro e w' ⟨rfl, rfl⟩
      clear hbb
      go_wp2_with fail
      go_ret
      exact ⟨rfl, below_drewN (Below.refl _ _) _⟩
  · have D : Hid (decide (Fits t x b) = false) := decide_eq_false (fun h => ht h.1)
    have HT := Lib.hid h
    have HL := Lib.hid lt
    obtain ⟨a, cap, rfl, _, _⟩ := h
    obtain ⟨a2, cap2, rfl, _, _⟩ := h2
    have HTK := Lib.hid ht
    rw [D.out]
    clear lt hx hl ht D
    go_enter Try.func8, Try.ntmps8
    go_wp2_with fail
    with_reducible refine (sTableValid _ _ _ t HT.out HL.out).mono ?_
    rintro e w' ⟨rfl, n, rfl⟩
    rw [decide_eq_false HTK.out]
    go_wp2_with fail
    go_ret
    exact ⟨rfl, below_drewN (Below.refl _ _) _⟩

end Go.Proofs.Ytigdgcpjkeaooaa

namespace Go.Proofs.Ytigdgcpjkeaooaa
open Go.RowKit

/-- the state of the region in which a cell of the rounding is changed: d1: the lot has been drawn; d2: the cell has been written -/
def FitG (w : World) (B : Nat) (a1 : Option Addr) (len cap : Nat) (zs : List Int) (p1 : Int) (s : Nat) (v : Value) (t : List (List Int)) (us : List Value) (vx : Value) (Y : List (List Int)) (xs : List Value) (k q : Nat) (c : Int) (d1 d2 : Bool) (W : World) : Prop :=
  ∃ p' T, (d1 = false → p' = p1) ∧ Rd W B a1 len cap zs p' ∧ Below w.heap.size w W ∧ OwnU W w.heap.size v t us ∧ OwnU W s vx T xs ∧ T.length = Y.length ∧ (d2 = false → T = Y) ∧ (d2 = true → ∃ z, c - 20 ≤ z ∧ z ≤ c + 20 ∧ T = setT Y k q z)

/-- the values of its operations -/
def FitF (B g n cp k q gi wk ci : Nat) (c b : Int) : Nat → Value → Prop
  | 0, v => v = .slice (some ⟨g, 0, none⟩) n cp
  | 1, v => v = .int .i64 (k : Int)
  | 2, v => v = .pointer (some ⟨g, k, none⟩)
  | 3, v => v = .slice (some ⟨gi, 0, none⟩) wk ci
  | 4, v => v = .int .i64 (q : Int)
  | 5, v => v = .slice (some ⟨g, 0, none⟩) n cp
  | 6, v => v = .int .i64 (k : Int)
  | 7, v => v = .pointer (some ⟨g, k, none⟩)
  | 8, v => v = .slice (some ⟨gi, 0, none⟩) wk ci
  | 9, v => v = .int .i64 (q : Int)
  | 10, v => v = .pointer (some ⟨gi, q, none⟩)
  | 11, v => v = .int .i64 c
  | 12, v => v = .int .i64 b
  | 13, v => v = .pointer (some ⟨B, 0, none⟩)
  | 14, v => ∃ x : Nat, v = .int .i64 (x : Int) ∧ x ≤ 2
  | 15, v => ∃ y, v = .int .i64 y ∧ -1 ≤ y ∧ y ≤ 1
  | 16, v => ∃ y, v = .int .i64 y ∧ -20 ≤ y ∧ y ≤ 20
  | 17, v => ∃ z, v = .int .i64 z ∧ c - 20 ≤ z ∧ z ≤ c + 20
  | 18, v => v = .pointer (some ⟨gi, q, none⟩)
  | _, _ => True

/-- what the drawing gives to a law -/
def DrawnFits (w : World) (e : Ending) (w' : World) : Prop :=
  ∃ g cap t us gx cx x xs b, e = .returned (.tuple #[.slice (some ⟨g, 0, none⟩) t.length cap, .slice (some ⟨gx, 0, none⟩) x.length cx, .int .i64 b]) ∧ Hid (OwnU w' w.heap.size (.slice (some ⟨g, 0, none⟩) t.length cap) t us) ∧ Hid (OwnU w' w.heap.size (.slice (some ⟨gx, 0, none⟩) x.length cx) x xs) ∧ Hid (TblD t) ∧ Hid (smallT x) ∧ Hid (same t x) ∧ 1 ≤ b ∧ b ≤ 21 ∧ Below w.heap.size w w'

theorem set_small {t : List (List Int)} (h : smallT t) {i j : Nat} (hi : i < t.length) (hj : j < wid t i) {x : Int} (h1 : -1000 ≤ x) (h2 : x ≤ 1000) : smallT (setT t i j x) := by
  obtain ⟨a1, a2⟩ := h
  refine ⟨by rw [setT_len]; exact a1, fun r hr => ?_⟩
  rw [setT_len] at hr
  rw [setT_wid]
  refine ⟨(a2 r hr).1, fun q hq => ?_⟩
  rw [setT_cel hi hj]
  split
  · exact ⟨h1, h2⟩
  · exact (a2 r hr).2 q hq

set_option maxRecDepth 100000 in
set_option maxHeartbeats 4000000 in
theorem drawControlFits (w : World) (a : Option Addr) (len cap : Nat) (zs : List Int) (h : IsRow .u8 w a len cap zs) :
    Calls Try.prog 6 #[.slice a len cap] w (DrawnFits w) := by
  have H := Lib.hid h; clear h
  go_enter Try.func6, Try.ntmps6
  go_wp2_with fail
  refine (open_any _ _ _ _ _ H.out).mono ?_
  rintro e w1 ⟨B, a1, l1, c1, z1, hB, rfl, r1, b1⟩
  go_wp2_with fail
  refine (sControlD _ B _ _ _ _ _ r1 (by omega)).mono ?_
  rintro e w2 ⟨v, t, us, b, p1, rfl, ho, hd, hb1, hb2, hp1, hp1', r2, g2⟩
  obtain ⟨g, cp, rfl, _, _, _, _⟩ := ho.form
  have HO := Lib.hid ho
  have HBT : Hid (∀ j, blksU (.slice (some ⟨g, 0, none⟩) t.length cp) us j → B < j ∧ j < w2.heap.size) := fun j hj => by
    have := ho.blk hj
    have := r1.lt
    omega
  have hs1 : w.heap.size ≤ w1.heap.size := b1.size
  have HD := Lib.hid hd
  have LD := Lib.hid (lensD hd)
  have R2 := Lib.hid r2
  have B2 := Lib.hid (below_grow b1 g2 hB)
  have hBlt : B < w2.heap.size := r2.lt
  clear ho hd r1 b1 r2 g2
  go_wp2_with fail
  refine (sControlRound _ _ _ t b HO.out.ints LD.out).mono ?_
  rintro e w3 ⟨bl3, hS⟩
  have HO3 := Lib.hid (HO.out.below bl3)
  have B3 := Lib.hid (B2.out.trans (bl3.mono B2.out.size))
  have R3 := Lib.hid (R2.out.kept (row := none) (below_grown bl3 none) (by simp))
  have hs23 : w2.heap.size ≤ w3.heap.size := bl3.size
  have hs2 : w.heap.size ≤ w2.heap.size := B2.out.size
  clear bl3 HO R2 B2
  rcases hS with ⟨_, g3, rfl, _⟩ | ⟨hs, gx, cx, xs, rfl, hx⟩
  · go_wp2_with fail
    refine (sCopy _ _ _ t HO3.out.ints (by have := HD.out.1; omega) (fun j hj => ⟨(HD.out.2 j hj).1, Nat.le_trans (HD.out.2 j hj).2.1 (by decide)⟩)).mono ?_
    rintro e w4 ⟨v4, u4, rfl, o4, b4⟩
    obtain ⟨g4, c4, rfl, _, _, _, _⟩ := o4.form
    have O4 := Lib.hid (o4.mono (base' := w.heap.size) (by omega))
    have HO4 := Lib.hid ((HO3.out.below b4).mono (base' := w.heap.size) hs1)
    have B4 := Lib.hid (B3.out.trans (b4.mono B3.out.size))
    clear o4 b4
    go_wp2_with fail
    go_ret3
    exact ⟨_, _, t, us, _, _, t, u4, b, rfl, HO4, O4, HD, HD.out.small, same_refl t, hb1, hb2, B4.out⟩
  · have HF := Lib.hid (near_fits hs.1 hs.2.2.1 hs.2.2.2)
    have hb20 := hs.2.2.2
    obtain ⟨Y, hY⟩ : ∃ Y, nearR t b = Y := ⟨_, rfl⟩
    rw [hY] at HF hx
    have HLY : Hid (t.length = Y.length) := HF.out.2.2.1.1
    have HSY := Lib.hid (fits_small HF.out)
    have HSS := Lib.hid HF.out.2.2.1
    rw [HLY.out] at hx
    have HX := Lib.hid hx
    have hYl : 1 ≤ Y.length := by rw [← HLY.out]; exact HF.out.1.1
    have hYl4 : Y.length ≤ 4 := HSY.out.1
    have hYli : (0 : Int) < (Y.length : Int) := by omega
    obtain ⟨g0, k0, hu0, hrow0, _, _, _, _, _, _⟩ := hx.rowW (i := 0) hYl
    obtain ⟨wd, hwd⟩ : ∃ wd, wid Y 0 = wd := ⟨_, rfl⟩
    have hwd1 : 1 ≤ wd ∧ wd ≤ 4 := by
      have h1 := HF.out.1.2.2
      have h2 := HF.out.2.2.1.2 0 (by have := HF.out.1.1; omega)
      omega
    have hwe : ∀ i, i < Y.length → wid Y i = wd := fun i hi => by
      rw [← HLY.out] at hi
      have h1 := HF.out.2.2.1.2 i hi
      have h2 := HF.out.2.2.1.2 0 (by have := HF.out.1.1; omega)
      have h3 := (HF.out.1.2.2.2.2 i hi).1
      omega
    have hcb : ∀ i j, i < Y.length → j < wd → 0 ≤ cel Y i j ∧ cel Y i j ≤ 119 := fun i j hi hj => by
      rw [← HLY.out] at hi
      have h2 := HF.out.2.2.1.2 0 (by have := HF.out.1.1; omega)
      have hj2 : j < wid t 0 := by omega
      have hc := (HF.out.1.2.2.2.2 i hi).2 j hj2
      have := cOk_bd2 HF.out.2.1.1 HF.out.2.1.2 hc.1 hc.2 (HF.out.2.2.2.1 i hi j hj2)
      omega
    have HWE := Lib.hid hwe
    have HCB := Lib.hid hcb
    rw [hwd] at hrow0
    rw [HLY.out]
    clear hx hY hs hwe hcb HF hu0
    go_wp2_with fail
    refine (pick_use _ B a1 l1 c1 z1 p1 4 R3.out (by omega)).mono ?_
    rintro e w4 ⟨m, rfl, hm, r4, g4⟩
    have HX4 := Lib.hid (HX.out.keptB g4 (fun j e hj => by cases e; have := (HX.out.blk hj).1; omega))
    have HO4 := Lib.hid ((HO3.out.mono hs1).keptB g4 (fun j e hj => by cases e; have := HBT.out _ hj; omega))
    have B4 := Lib.hid (below_grow B3.out g4 hB)
    have R4 := Lib.hid r4
    have hs34 : w3.heap.size ≤ w4.heap.size := g4.size
    clear r4 g4 HX HO3 B3 R3
    by_cases hm0 : m = 0
    · subst hm0
      go_wp2_with fail
      refine (pick_use _ B a1 l1 c1 z1 (p1 + 1) (Y.length : Int) R4.out (by omega)).mono ?_
      rintro e w5 ⟨k, rfl, hk, r5, g5⟩
      have hk' : k < Y.length := by omega
      have HX5 := Lib.hid (HX4.out.keptB g5 (fun j e hj => by cases e; have := (HX4.out.blk hj).1; omega))
      have HO5 := Lib.hid (HO4.out.keptB g5 (fun j e hj => by cases e; have := HBT.out _ hj; omega))
      have B5 := Lib.hid (below_grow B4.out g5 hB)
      have R5 := Lib.hid r5
      clear r5 g5 HX4 HO4 B4 R4 hm hk hrow0
      obtain ⟨g0, k0, hu0, hrow0, _, _, _, _, _, _⟩ := HX5.out.rowW (i := 0) hYl
      rw [hwd] at hrow0
      go_wp2_with fail
      refine (pick_use _ B a1 l1 c1 z1 (p1 + 1 + 1) (wd : Int) R5.out (by omega)).mono ?_
      rintro e w6 ⟨q, rfl, hq, r6, g6⟩
      have hq' : q < wd := by omega
      have HX6 := Lib.hid (HX5.out.keptB g6 (fun j e hj => by cases e; have := (HX5.out.blk hj).1; omega))
      have HO6 := Lib.hid (HO5.out.keptB g6 (fun j e hj => by cases e; have := HBT.out _ hj; omega))
      have B6 := Lib.hid (below_grow B5.out g6 hB)
      have R6 := Lib.hid r6
      clear r6 g6 HX5 HO5 B5 R5 hq hrow0 hu0
      obtain ⟨gi, ci, hu, _, hgi1, _, hgi3, _, _, _⟩ := HX6.out.rowW hk'
      have hwk : wid Y k = wd := HWE.out k hk'
      rw [hwk] at hu
      have HU := Lib.hid hu
      have kn : (k : Int) < (Y.length : Int) := by omega
      have hqk : q < wid Y k := by omega
      obtain ⟨c, hce⟩ : ∃ c, cel Y k q = c := ⟨_, rfl⟩
      have hcb : 0 ≤ c ∧ c ≤ 119 := by rw [← hce]; exact HCB.out k q hk' hq'
      have HCE := Lib.hid hce
      clear hce hu
      go_wp2_with fail
      refine region_st (by kernel_rfl) (by kernel_rfl) (by kernel_rfl) (fun bt W => FitG w B a1 l1 c1 z1 (p1 + 1 + 1 + 1) w2.heap.size (.slice (some ⟨g, 0, none⟩) t.length cp) t us (.slice (some ⟨gx, 0, none⟩) Y.length cx) Y xs k q c (bt 14) (bt 19) W) (FitF B gx Y.length cx k q gi wd ci c b) ?start ?step ?fin
      case start => exact ⟨_, Y, fun _ => rfl, R6.out.drew, below_drewN B6.out 1, HO6.out.drewN 1, HX6.out.drewN 1, rfl, fun _ => rfl, fun h => by cases h⟩
      case step =>
        intro a W bt hG hf i o ho hni hcl hdep
        have e8 : a.eval (.tmp 8) = .slice (some ⟨gx, 0, none⟩) Y.length cx := hf 8 (by kernel_rfl)
        have e10 : a.eval (.tmp 10) = .int .i64 (k : Int) := hf 10 (by kernel_rfl)
        have e11 : a.eval (.tmp 11) = .int .i64 (q : Int) := hf 11 (by kernel_rfl)
        have e7 : a.eval (.tmp 7) = .int .i64 b := hf 7 (by kernel_rfl)
        have e5 : a.eval (.tmp 5) = .pointer (some ⟨B, 0, none⟩) := hf 5 (by kernel_rfl)
        obtain ⟨p', T, hp1, hrd, hbl, hot, hou, hlen, hT0, hT1⟩ := id hG
        have hrow : W.cell? ⟨gx, k, none⟩ = some (.slice (some ⟨gi, 0, none⟩) wd ci) := hou.rowCell (by omega) HU.out
        have hcel : bt 19 = false → W.cell? ⟨gi, q, none⟩ = some (.int .i64 c) := fun hb => by
          have e := hT0 hb
          subst e
          have := (hou.at hk' HU.out (j := q) (by have := hqk; unfold wid at this; omega)).1
          rw [this]
          exact congrArg (fun z => some (Value.int .i64 z)) HCE.out
        have hfrz : W.frozen? ⟨gi, q, none⟩ = false := by
          have := hou.rows k (by omega)
          rw [HU.out] at this
          exact OwnI.frozen this q
        have hu := HU.out
        have qw : (q : Int) < (wd : Int) := by omega
        have hG2 : ∀ j, j ≠ 14 → j ≠ 19 → FitG w B a1 l1 c1 z1 (p1 + 1 + 1 + 1) w2.heap.size (.slice (some ⟨g, 0, none⟩) t.length cp) t us (.slice (some ⟨gx, 0, none⟩) Y.length cx) Y xs k q c (if 14 = j then true else bt 14) (if 19 = j then true else bt 19) W := fun j h1 h2 => by
          rw [if_neg (Ne.symm h1), if_neg (Ne.symm h2)]; exact hG
        rcases i with _ | i
        · cases ho
          exact ⟨rfl, _, rfl, (hG2 0 (by decide) (by decide)), e8⟩
        rcases i with _ | i
        · cases ho
          exact ⟨rfl, _, rfl, (hG2 1 (by decide) (by decide)), e10⟩
        rcases i with _ | i
        · cases ho
          have h1 : a.eval (.tmp 44) = .slice (some ⟨gx, 0, none⟩) Y.length cx := hdep 0 (by kernel_rfl) _ rfl
          have h2 : a.eval (.tmp 45) = .int .i64 (k : Int) := hdep 1 (by kernel_rfl) _ rfl
          exact ⟨rfl, op_val (v := .pointer (some ⟨gx, k, none⟩)) (w' := W) (by simp [go_sem, evT h1, evT h2, kn]) ⟨_, rfl, (hG2 2 (by decide) (by decide)), rfl⟩⟩
        rcases i with _ | i
        · cases ho
          have h1 : a.eval (.tmp 46) = .pointer (some ⟨gx, k, none⟩) := hdep 2 (by kernel_rfl) _ rfl
          exact ⟨rfl, op_val (v := .slice (some ⟨gi, 0, none⟩) wd ci) (w' := W) (by simp [go_sem, evT h1, hrow]) ⟨_, rfl, (hG2 3 (by decide) (by decide)), rfl⟩⟩
        rcases i with _ | i
        · cases ho
          exact ⟨rfl, _, rfl, (hG2 4 (by decide) (by decide)), e11⟩
        rcases i with _ | i
        · cases ho
          exact ⟨rfl, _, rfl, (hG2 5 (by decide) (by decide)), e8⟩
        rcases i with _ | i
        · cases ho
          exact ⟨rfl, _, rfl, (hG2 6 (by decide) (by decide)), e10⟩
        rcases i with _ | i
        · cases ho
          have h1 : a.eval (.tmp 49) = .slice (some ⟨gx, 0, none⟩) Y.length cx := hdep 5 (by kernel_rfl) _ rfl
          have h2 : a.eval (.tmp 50) = .int .i64 (k : Int) := hdep 6 (by kernel_rfl) _ rfl
          exact ⟨rfl, op_val (v := .pointer (some ⟨gx, k, none⟩)) (w' := W) (by simp [go_sem, evT h1, evT h2, kn]) ⟨_, rfl, (hG2 7 (by decide) (by decide)), rfl⟩⟩
        rcases i with _ | i
        · cases ho
          have h1 : a.eval (.tmp 51) = .pointer (some ⟨gx, k, none⟩) := hdep 7 (by kernel_rfl) _ rfl
          exact ⟨rfl, op_val (v := .slice (some ⟨gi, 0, none⟩) wd ci) (w' := W) (by simp [go_sem, evT h1, hrow]) ⟨_, rfl, (hG2 8 (by decide) (by decide)), rfl⟩⟩
        rcases i with _ | i
        · cases ho
          exact ⟨rfl, _, rfl, (hG2 9 (by decide) (by decide)), e11⟩
        rcases i with _ | i
        · cases ho
          have h1 : a.eval (.tmp 52) = .slice (some ⟨gi, 0, none⟩) wd ci := hdep 8 (by kernel_rfl) _ rfl
          have h2 : a.eval (.tmp 53) = .int .i64 (q : Int) := hdep 9 (by kernel_rfl) _ rfl
          exact ⟨rfl, op_val (v := .pointer (some ⟨gi, q, none⟩)) (w' := W) (by simp [go_sem, evT h1, evT h2, qw]) ⟨_, rfl, (hG2 10 (by decide) (by decide)), rfl⟩⟩
        rcases i with _ | i
        · cases ho
          have h1 : a.eval (.tmp 54) = .pointer (some ⟨gi, q, none⟩) := hdep 10 (by kernel_rfl) _ rfl
          have hd : bt 19 = false := by
            cases hb : bt 19 with
            | false => rfl
            | true =>
              have c0 := hcl 19 _ hb rfl 17 (by kernel_rfl)
              have c1 := hcl 17 _ c0 rfl 11 (by kernel_rfl)
              rw [hni] at c1; cases c1
          have hc := hcel hd
          exact ⟨rfl, op_val (v := .int .i64 c) (w' := W) (by simp [go_sem, evT h1, hc]) ⟨_, rfl, (hG2 11 (by decide) (by decide)), rfl⟩⟩
        rcases i with _ | i
        · cases ho
          exact ⟨rfl, _, rfl, (hG2 12 (by decide) (by decide)), e7⟩
        rcases i with _ | i
        · cases ho
          exact ⟨rfl, _, rfl, (hG2 13 (by decide) (by decide)), e5⟩
        rcases i with _ | i
        · cases ho
          have h1 : a.eval (.tmp 57) = .pointer (some ⟨B, 0, none⟩) := hdep 13 (by kernel_rfl) _ rfl
          refine ⟨rfl, op_enter (w' := W) (f := 18) (args := #[.pointer (some ⟨B, 0, none⟩), .int .i64 3]) (by simp [go_sem, evT h1]) ?_⟩
          have hpp := hp1 hni
          refine (pick_use W B a1 l1 c1 z1 p' 3 hrd (by omega)).mono ?_
          rintro e W2 ⟨m, rfl, hm, r2, g2⟩
          refine ⟨_, rfl, _, rfl, ?_, ⟨m, rfl, by omega⟩⟩
          refine ⟨p' + 1, T, fun h => ?_, r2, below_grow hbl g2 hB, hot.keptB g2 (fun j e hj => by cases e; have := HBT.out _ hj; omega), hou.keptB g2 (fun j e hj => by cases e; have := (hou.blk hj).1; omega), hlen, fun h => hT0 (by simpa using h), fun h => hT1 (by simpa using h)⟩
          simp at h
        rcases i with _ | i
        · cases ho
          obtain ⟨x, h2, hx⟩ : ∃ x : Nat, a.eval (.tmp 58) = .int .i64 (x : Int) ∧ x ≤ 2 := hdep 14 (by kernel_rfl) _ rfl
          have hw : IntKind.i64.wrap ((x : Int) - 1) = (x : Int) - 1 := by rw [IntKind.wrap_i64]; omega
          exact ⟨rfl, op_val (v := .int .i64 ((x : Int) - 1)) (w' := W) (by simp [go_sem, evT h2, hw]) ⟨_, rfl, (hG2 15 (by decide) (by decide)), ⟨(x : Int) - 1, rfl, by omega, by omega⟩⟩⟩
        rcases i with _ | i
        · cases ho
          have h1 : a.eval (.tmp 56) = .int .i64 b := hdep 12 (by kernel_rfl) _ rfl
          obtain ⟨x, h2, hx1, hx2⟩ : ∃ x, a.eval (.tmp 59) = .int .i64 x ∧ -1 ≤ x ∧ x ≤ 1 := hdep 15 (by kernel_rfl) _ rfl
          have hw : ∃ y, IntKind.i64.wrap (b * x) = y ∧ -20 ≤ y ∧ y ≤ 20 := by
            have : x = -1 ∨ x = 0 ∨ x = 1 := by omega
            rcases this with rfl | rfl | rfl
            · exact ⟨-b, by rw [IntKind.wrap_i64]; omega, by omega, by omega⟩
            · exact ⟨0, by simp [IntKind.wrap_i64], by omega, by omega⟩
            · exact ⟨b, by rw [IntKind.wrap_i64]; omega, by omega, by omega⟩
          obtain ⟨y, hy, y0, y1⟩ := hw
          exact ⟨rfl, op_val (v := .int .i64 y) (w' := W) (by simp [go_sem, evT h1, evT h2, hy]) ⟨_, rfl, (hG2 16 (by decide) (by decide)), ⟨y, rfl, y0, y1⟩⟩⟩
        rcases i with _ | i
        · cases ho
          have h1 : a.eval (.tmp 55) = .int .i64 c := hdep 11 (by kernel_rfl) _ rfl
          obtain ⟨y, h2, y0, y1⟩ : ∃ y, a.eval (.tmp 60) = .int .i64 y ∧ -20 ≤ y ∧ y ≤ 20 := hdep 16 (by kernel_rfl) _ rfl
          have hw : IntKind.i64.wrap (c + y) = c + y := by rw [IntKind.wrap_i64]; omega
          exact ⟨rfl, op_val (v := .int .i64 (c + y)) (w' := W) (by simp [go_sem, evT h1, evT h2, hw]) ⟨_, rfl, (hG2 17 (by decide) (by decide)), ⟨c + y, rfl, by omega, by omega⟩⟩⟩
        rcases i with _ | i
        · cases ho
          have h1 : a.eval (.tmp 47) = .slice (some ⟨gi, 0, none⟩) wd ci := hdep 3 (by kernel_rfl) _ rfl
          have h2 : a.eval (.tmp 48) = .int .i64 (q : Int) := hdep 4 (by kernel_rfl) _ rfl
          exact ⟨rfl, op_val (v := .pointer (some ⟨gi, q, none⟩)) (w' := W) (by simp [go_sem, evT h1, evT h2, qw]) ⟨_, rfl, (hG2 18 (by decide) (by decide)), rfl⟩⟩
        rcases i with _ | i
        · cases ho
          have h1 : a.eval (.tmp 62) = .pointer (some ⟨gi, q, none⟩) := hdep 18 (by kernel_rfl) _ rfl
          obtain ⟨z, h2, z0, z1⟩ : ∃ z, a.eval (.tmp 61) = .int .i64 z ∧ c - 20 ≤ z ∧ z ≤ c + 20 := hdep 17 (by kernel_rfl) _ rfl
          have hc := hcel hni
          have hfz := hfrz
          refine ⟨rfl, op_skip (w' := W.setCell ⟨gi, q, none⟩ (.int .i64 z)) (by simp [go_sem, evT h1, evT h2, hc, hfz]) ⟨_, rfl, ?_, trivial⟩⟩
          have hgg := grow_set (b := gi) (grow_refl W (some gi)) q (.int .i64 z)
          refine ⟨p', setT T k q z, fun h => hp1 (by simpa using h), hrd.kept hgg (fun j e => by cases e; omega), below_grow hbl hgg (by omega), hot.keptB hgg (fun j e hj => by cases e; have := HBT.out _ hj; omega), OwnU.setT hou (by omega) hu q z, by rw [setT_len]; exact hlen, fun h => by simp at h, fun _ => ⟨z, z0, z1, by rw [hT0 hni]⟩⟩
        · cases ho
      case fin =>
        intro a W bt hsz' hdf hG hall hold hfact
        obtain ⟨p', T, hp1', hrd', hbl', hot, hou, hlen, hT0, hT1⟩ := hG
        obtain ⟨z, z0, z1, rfl⟩ := hT1 (hall 19 (by simp))
        have HO7 := Lib.hid hot
        have HX7 := Lib.hid (hou.mono (base' := w.heap.size) hs2)
        have B7 := Lib.hid hbl'
        have HS7 := Lib.hid (set_small HSY.out hk' hqk (x := z) (by omega) (by omega))
        have HSS7 := Lib.hid (sameT_set HSS.out k q z)
        have HL7 : Hid ((setT Y k q z).length = Y.length) := setT_len _ _ _ _
        rw [← HL7.out] at HX7
        obtain ⟨f, rfl⟩ := frame_lit [44, 45, 46, 47, 48, 49, 50, 51, 52, 53, 54, 55, 56, 57, 58, 59, 60, 61, 62] (by kernel_rfl) hsz' hdf hold
        clear hsz' hdf hall hold hfact hT0 hT1 hou hrd' hot hbl' hp1' HX6 HO6 B6 R6
        simp only [List.foldl_cons, List.foldl_nil, List.setIfInBounds_toArray, List.set_cons_succ, List.set_cons_zero]
        go_wp2_with fail
        go_ret3
        exact ⟨_, _, t, us, _, _, setT Y k q z, xs, b, by rw [HL7.out, HLY.out]; rfl, HO7, HX7, HD, HS7, HSS7, hb1, hb2, B7.out⟩
    · go_wp2_with fail
      go_ret3
      exact ⟨_, _, t, us, _, _, Y, xs, b, by rw [HLY.out]; rfl, HO4, Lib.hid (HX4.out.mono hs2), HD, HSY, HSS, hb1, hb2, B4.out⟩

end Go.Proofs.Ytigdgcpjkeaooaa
