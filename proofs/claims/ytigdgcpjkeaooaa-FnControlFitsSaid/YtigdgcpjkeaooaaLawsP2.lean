/- The walk of the law: a rounding is near in all sums. -/
import Derived.Test.YtigdgcpjkeaooaaFitsA
namespace Go.Proofs.Ytigdgcpjkeaooaa
open Go.RowKit

theorem S_abs {m : Int} {f : Nat → Int} : ∀ n : Nat, (∀ j, j < n → -m ≤ f j ∧ f j ≤ m) → -(n * m) ≤ S n f ∧ S n f ≤ n * m
  | 0, _ => by simp [S]
  | n + 1, h => by
    have h1 := S_abs n (fun j hj => h j (by omega))
    have h2 := h n (by omega)
    have e : ((n + 1 : Nat) : Int) * m = n * m + m := by rw [Int.natCast_succ, Int.add_mul, Int.one_mul]
    rw [S, e]
    omega

set_option maxHeartbeats 400000 in
theorem lSumOf (w : World) (P : Nat → Prop) (v : Value) (xs : List Int) (f : Nat → Int) (h : IntS w P v xs) (hl : xs.length ≤ 4) (hf : ∀ j, j < xs.length → xs[j]?.getD 0 = f j) (hb : ∀ j, j < xs.length → 0 ≤ f j ∧ f j ≤ 1000) :
    Calls Try.prog 12 #[v] w fun e w' => e = .returned (.int .i64 (S xs.length f)) ∧ w = w' := by
  obtain ⟨a, cap, rfl, _, hr⟩ := h
  have HR := Lib.hid hr
  have HB := Lib.hid hb
  have HF := Lib.hid hf
  clear hr hb hf
  go_enter Try.func12, Try.ntmps12
  go_wp2_with fail
  go_loopw [3, 4] (fun s i wr => ∃ k : Nat, k ≤ xs.length ∧ i = .int .i64 k ∧ s = .int .i64 (S k f) ∧ wr = w) (fun _ i _ => xs.length - (intOf i).toNat)
  case atStart => exact ⟨0, Nat.zero_le _, rfl, rfl, rfl⟩
  case round =>
    obtain ⟨k, hk, rfl, rfl, rfl⟩ := hrel
    by_cases hlt : k < xs.length
    · obtain ⟨b, o, rfl, _, hc⟩ := HR.out k hlt
      rw [HF.out k hlt] at hc
      have HS : Hid (S (k + 1) f = S k f + f k) := rfl
      have b1 := S_bds (m := 1000) k (fun j hj => HB.out j (by omega))
      have b2 := HB.out k hlt
      have hkn : (k : Int) < (xs.length : Int) := by omega
      have hw : IntKind.i64.wrap (S k f + f k) = S k f + f k := by rw [IntKind.wrap_i64]; omega
      go_wp2_with fail
      go_roundw
      case rel => exact ⟨k + 1, by omega, by go_num, by rw [HS.out], trivial⟩
      case measure => simp [intOf]; omega
    · have e : Hid (k = xs.length) := by unfold Hid; omega
      go_wp2_with fail
      go_ret
      exact ⟨by rw [← e.out]; rfl, rfl⟩

set_option maxRecDepth 100000 in
set_option maxHeartbeats 4000000 in
theorem wFnControlFits (a : Option Addr) (len cap : Nat) (z : List Int) (w : World) (h : IsRow .u8 w a len cap z) :
    Calls Try.prog 4 #[.slice a len cap] w fun e w' => e = .returned (.bool true) ∧ Below w.heap.size w w' := by
  have H := Lib.hid h; clear h
  by_cases hl : 1048576 < len
  · go_enter Try.func4, Try.ntmps4
    go_wp2_with fail
    go_ret
    exact ⟨rfl, Below.refl _ _⟩
  go_enter Try.func4, Try.ntmps4
  go_wp2_with fail
  refine (drawControlFits _ _ _ _ _ H.out).mono ?_
  rintro e w1 ⟨g, cp, t, us, gx, cx, x, xs, b, rfl, ho, hx, hd, hsx, hsm, hb1, hb2, bl1⟩
  have LD := Lib.hid (lensD hd.out)
  have LX := Lib.hid (lens_same' LD.out hsm.out)
  have HB1 := Lib.hid bl1
  have hxl : Hid (x.length = t.length) := by have h := hsm.out; exact h.1.symm
  clear bl1 hl
  go_wp2_with fail
  with_reducible refine (iFits _ _ _ _ _ t x b ho.out.ints hx.out.ints LD.out LX.out).mono ?_
  rintro e w2 ⟨rfl, bl2⟩
  have HO2 := Lib.hid (ho.out.below bl2)
  have HX2 := Lib.hid (hx.out.below bl2)
  have HB2 := Lib.hid (HB1.out.trans (bl2.mono HB1.out.size))
  clear bl2 ho hx HB1
  go_wp2_with fail
  with_reducible refine (sFitsAny _ _ _ _ _ t x b HO2.out.ints HX2.out.ints LD.out hsx.out hxl.out).mono ?_
  rintro e w3 ⟨rfl, bl3⟩
  have HO3 := Lib.hid (HO2.out.below bl3)
  have HX3 := Lib.hid (HX2.out.below bl3)
  have HB3 := Lib.hid (HB2.out.trans (bl3.mono HB2.out.size))
  clear bl3 HO2 HX2 HB2
  by_cases hf : Fits t x b
  rotate_left
  · rw [decide_eq_false hf]
    go_wp2_with fail
    go_ret
    exact ⟨rfl, HB3.out⟩
  rw [decide_eq_true hf]
  have HF := Lib.hid hf
  have p0 : 0 < t.length := by have := hf.1.1; omega
  have p0i : (0 : Int) < (t.length : Int) := by omega
  have hl4 : t.length ≤ 4 := hf.1.2.1
  have hbb : 2 ≤ b ∧ b ≤ 20 := hf.2.1
  obtain ⟨wd, hwd⟩ : ∃ wd, wid t 0 = wd := ⟨_, rfl⟩
  have hw14 : 1 ≤ wd ∧ wd ≤ 4 := by have := hf.1.2.2; omega
  obtain ⟨j, hj⟩ : ∃ j, wd = j + 1 := ⟨wd - 1, by omega⟩
  have hjw : j < wd := by omega
  have hjw' : (j : Int) < (wd : Int) := by omega
  have hw1 : IntKind.i64.wrap ((wd : Int) - 1) = (j : Int) := by rw [IntKind.wrap_i64]; omega
  have HW : Hid (∀ i, i < t.length → wid t i = wd ∧ wid x i = wd ∧ ∀ q, q < wd → 0 ≤ cel t i q ∧ cel t i q ≤ 99 ∧ 0 ≤ cel x i q ∧ cel x i q ≤ 119 ∧ max (cel t i q - cel x i q) (cel x i q - cel t i q) ≤ b - 1 ∧ (cel x i q).tmod b = 0) := fun i hi => by
    have h1 := hf.2.2.1.2 i hi
    have h2 := (hf.1.2.2.2.2 i hi).1
    refine ⟨by omega, by omega, fun q hq => ?_⟩
    have hc := (hf.1.2.2.2.2 i hi).2 q (by omega)
    have hk := hf.2.2.2.1 i hi q (by omega)
    have := cOk_bd2 hbb.1 hbb.2 hc.1 hc.2 hk
    refine ⟨hc.1, hc.2, this.1, this.2.1, this.2.2, ?_⟩
    rw [Int.tmod_eq_emod_of_nonneg this.1]
    have hm : dn b (cel t i q) = b * (cel t i q / b) := by unfold dn; have := Int.emod_add_mul_ediv (cel t i q) b; omega
    rcases hk with e | ⟨e, _⟩
    · rw [e, hm]; exact Int.mul_emod_right _ _
    · rw [e, hm, show b * (cel t i q / b) + b = b * (cel t i q / b + 1) by rw [Int.mul_add, Int.mul_one]]; exact Int.mul_emod_right _ _
  have HD : Hid (∀ i, i < t.length → -b < S wd (cel x i) - S wd (cel t i) ∧ S wd (cel x i) - S wd (cel t i) < b) := fun i hi => by
    have := hf.2.2.2.2.1 i hi
    rw [hwd] at this
    unfold nr at this
    omega
  have HC : Hid (-b < S t.length (fun i => cel x i j - cel t i j) ∧ S t.length (fun i => cel x i j - cel t i j) < b) := by
    have := hf.2.2.2.2.2.1 j (by omega)
    unfold nr at this
    unfold Hid
    rw [S_sub]
    omega
  have HT : Hid (-b < S t.length (fun i => S wd (cel x i) - S wd (cel t i)) ∧ S t.length (fun i => S wd (cel x i) - S wd (cel t i)) < b) := by
    have := hf.2.2.2.2.2.2
    have hw : wid x 0 = wd := by have := hf.2.2.1.2 0 p0; omega
    unfold nr totalT at this
    rw [hwd, hw, hxl.out] at this
    unfold Hid
    rw [S_sub]
    omega
  obtain ⟨g0, k0, _, hc0, _⟩ := HO3.out.rowW (i := 0) p0
  rw [hwd] at hc0
  have HJ := Lib.hid hj
  clear hf hwd hj
  go_wp2_with fail
  clear hc0
  obtain ⟨fc, hfc⟩ : ∃ fc : Nat → Int, fc = (fun i => cel x i j - cel t i j) := ⟨_, rfl⟩
  obtain ⟨fd, hfd⟩ : ∃ fd : Nat → Int, fd = (fun i => S wd (cel x i) - S wd (cel t i)) := ⟨_, rfl⟩
  have HFC : Hid (∀ i, i < t.length → -119 ≤ fc i ∧ fc i ≤ 119) := fun i hi => by
    have := (HW.out i hi).2.2 j hjw
    simp only [hfc]; omega
  have HFD : Hid (∀ i, i < t.length → -b < fd i ∧ fd i < b) := by rw [hfd]; exact HD.out
  rw [← hfc] at HC
  rw [← hfd] at HT
  have EFC := Lib.hid hfc
  have EFD := Lib.hid hfd
  clear hfc hfd HD
  have hbz : b ≠ 0 := by omega
  go_loopw [8, 9, 11] (fun c s i wr => ∃ (k n : Nat), k ≤ t.length ∧ i = .int .i64 k ∧ c = .int .i64 (S k fc) ∧ s = .int .i64 (S k fd) ∧ wr = w3.drewN n) (fun _ _ i _ => t.length - (intOf i).toNat)
  case atStart => exact ⟨0, 0, Nat.zero_le _, rfl, rfl, rfl, rfl⟩
  case round =>
    obtain ⟨k, n, hk, rfl, rfl, rfl, rfl⟩ := hrel
    have bc := S_abs (m := 119) k (fun i hi => HFC.out i (by omega))
    have bd := S_abs (m := 20) (f := fd) k (fun i hi => by have := HFD.out i (by omega); omega)
    by_cases hlt : k < t.length
    · have hltx : k < x.length := by rw [hxl.out]; exact hlt
      obtain ⟨gt, ct, _, hct, _, _, _, _, _, ot⟩ := HO3.out.rowW hlt
      obtain ⟨gv, cv, _, hcx, _, _, _, _, _, ox⟩ := HX3.out.rowW hltx
      obtain ⟨e1, e2, hcb⟩ := HW.out k hlt
      have oti := ot.ints
      have oxi := ox.ints
      have lt1 : (t[k]?.getD []).length = wd := e1
      have lx1 : (x[k]?.getD []).length = wd := e2
      have hc1 := OwnI.cell ot (j := j) (by rw [lt1]; exact hjw)
      have hc2 := OwnI.cell ox (j := j) (by rw [lx1]; exact hjw)
      rw [e1] at hct oti
      rw [e2] at hcx oxi
      change w3.cell? _ = some (Value.int .i64 (cel t k j)) at hc1
      change w3.cell? _ = some (Value.int .i64 (cel x k j)) at hc2
      have C1 : Hid (∀ m, Calls Try.prog 12 #[.slice (some ⟨gt, 0, none⟩) wd ct] (w3.drewN (n + m)) fun e w' => e = .returned (.int .i64 (S wd (cel t k))) ∧ ∃ q, w' = w3.drewN (n + q)) := fun m => by
        refine (lSumOf (w3.drewN (n + m)) _ _ (t[k]?.getD []) (cel t k) (oti.drewN _) (by rw [lt1]; omega) (fun _ _ => rfl) (fun q hq => by have := hcb q (by omega); omega)).mono ?_
        rintro e w' ⟨rfl, rfl⟩
        exact ⟨by rw [lt1], m, rfl⟩
      have C2 : Hid (∀ m, Calls Try.prog 12 #[.slice (some ⟨gv, 0, none⟩) wd cv] (w3.drewN (n + m)) fun e w' => e = .returned (.int .i64 (S wd (cel x k))) ∧ ∃ q, w' = w3.drewN (n + q)) := fun m => by
        refine (lSumOf (w3.drewN (n + m)) _ _ (x[k]?.getD []) (cel x k) (oxi.drewN _) (by rw [lx1]; omega) (fun _ _ => rfl) (fun q hq => by have := hcb q (by omega); omega)).mono ?_
        rintro e w' ⟨rfl, rfl⟩
        exact ⟨by rw [lx1], m, rfl⟩
      have HS1 : Hid (S (k + 1) fc = S k fc + fc k) := rfl
      have HS2 : Hid (S (k + 1) fd = S k fd + fd k) := rfl
      have f1 : fc k = cel x k j - cel t k j := by rw [EFC.out]
      have f2 : fd k = S wd (cel x k) - S wd (cel t k) := by rw [EFD.out]
      have b1 := S_bds (m := 99) (f := cel t k) wd (fun q hq => by have := hcb q hq; omega)
      have b2 := S_bds (m := 119) (f := cel x k) wd (fun q hq => by have := hcb q hq; omega)
      have b3 := HFD.out k hlt
      have b4 := HFC.out k hlt
      have b5 := hcb j hjw
      have hkn : (k : Int) < (t.length : Int) := by omega
      have hkx : (k : Int) < (x.length : Int) := by omega
      clear ot ox oti oxi e1 e2 lt1 lx1 hcb
      generalize S wd (cel t k) = s1 at *
      generalize S wd (cel x k) = s2 at *
      generalize cel t k j = z1 at *
      generalize cel x k j = z2 at *
      generalize fd k = d at *
      generalize fc k = c at *
      generalize S k fc = sc at *
      generalize S k fd = sd at *
      have h1 : IntKind.i64.wrap (s2 - s1) = d := by rw [IntKind.wrap_i64]; omega
      have h2 : IntKind.i64.wrap (sd + d) = sd + d := by rw [IntKind.wrap_i64]; omega
      have h3 : IntKind.i64.wrap (sc + z2) = sc + z2 := by rw [IntKind.wrap_i64]; omega
      have h4 : IntKind.i64.wrap (sc + z2 - z1) = sc + c := by rw [IntKind.wrap_i64]; omega
      have h5 : IntKind.i64.wrap (-b) = -b := by rw [IntKind.wrap_i64]; omega
      have h6 : IntKind.i64.wrap (z2 - z1) = z2 - z1 := by rw [IntKind.wrap_i64]; omega
      have h7 : IntKind.i64.wrap (z1 - z2) = z1 - z2 := by rw [IntKind.wrap_i64]; omega
      have h8 := b5.2.2.2.2.2
      have g1 : decide (b ≤ d) = false := by simp; omega
      have g2 : decide (d ≤ -b) = false := by simp; omega
      have g3 : decide (b ≤ z2 - z1) = false := by simp; omega
      have g4 : decide (b ≤ z1 - z2) = false := by simp; omega
      clear f1 f2 b1 b2 b3 b4 b5
      go_wp2_with fail
      go_quiet ((go_at_call 12; first | with_reducible exact C1.out _ | with_reducible exact C2.out _))
      go_wp2_with fail
      go_quiet (fail)
      go_wp2_with fail
      go_quiet (fail)
      go_wp2_with fail
      go_roundw
      case rel => exact ⟨k + 1, _, by omega, by go_num, by rw [HS1.out], by rw [HS2.out], rfl⟩
      case measure => simp [intOf]; omega
    · have e : Hid (k = t.length) := by unfold Hid; omega
      have hc := HC.out
      have ht := HT.out
      rw [← e.out] at hc ht
      generalize S k fc = sc at *
      generalize S k fd = sd at *
      have h5 : IntKind.i64.wrap (-b) = -b := by rw [IntKind.wrap_i64]; omega
      have g1 : decide (sd < b) = true := by simp; omega
      have g2 : decide (-b < sd) = true := by simp; omega
      have g3 : decide (sc < b) = true := by simp; omega
      have g4 : decide (-b < sc) = true := by simp; omega
      go_wp2_with fail
      go_ret
      exact ⟨rfl, below_drewN HB3.out _⟩

end Go.Proofs.Ytigdgcpjkeaooaa
