/- Contracts: DiffRisk, in the program and in the reference; its drawing. -/
import Derived.Test.YtdlpcoafbmhjjaaMaskT
import Derived.Test.YtdlpcoafbmhjjaaDrawT3
namespace Go.Proofs.Ytdlpcoafbmhjjaa
open Go.RowKit

theorem lensK {t : List (List Int)} (h : tblOk t) : lensT t := by
  refine ⟨by have := h.2.1; omega, fun i => ?_⟩
  by_cases hi : i < t.length
  · have h1 := (h.2.2.2.2 i hi).1
    have h2 := h.2.2.2.1
    omega
  · unfold wid; rw [List.getElem?_eq_none (by omega)]; simp
theorem len4K {t : List (List Int)} (h : tblOk t) : t.length ≤ 4 := h.2.1
theorem mask4 {t : List (List Int)} (h : tblOk t) (k : Int) : ∀ i, i < t.length → ((maskOf t k)[i]?.getD []).length ≤ 4 := fun i hi => by
  rw [maskOf_row, List.length_map]
  have h1 := (h.2.2.2.2 i hi).1
  have h2 := h.2.2.2.1
  unfold wid at *
  omega
theorem subT_len (a b : List (List Int)) : (subT a b).length = a.length := mkT_len _ _ _

set_option maxHeartbeats 1000000 in
theorem iDiffRisk (w : World) (P Q : Nat → Prop) (va vb : Value) (a b : List (List Int)) (k x : Int) (ha : IntSS w P va a) (hb : IntSS w Q vb b) (la : lensT a) (lb : lensT b) (hx : Hid (diffR a b k = x)) :
    Calls Try.prog 11 #[va, vb, .int .i64 k] w fun e w' => e = .returned (.int .i64 x) ∧ Below w.heap.size w w' := by
  have HA := Lib.hid ha
  have HB := Lib.hid hb
  have LA := Lib.hid la
  have LB := Lib.hid lb
  obtain ⟨xa, ca, rfl, _, _⟩ := ha
  obtain ⟨xb, cb, rfl, _, _⟩ := hb
  clear la lb
  go_enter Try.func11, Try.ntmps11
  go_wp2_with fail
  with_reducible refine (iDiffTable _ _ _ _ _ a b HA.out HB.out LA.out LB.out).mono ?_
  rintro e w1 ⟨bl, hD⟩
  rcases hD with ⟨hn, rfl⟩ | ⟨hok, g, cap, us, rfl, ho⟩
  · have HX : Hid (x = -1) := by unfold Hid; rw [← hx.out]; unfold diffR; rw [if_neg hn]
    clear hn
    go_wp2_with fail
    go_ret
    exact ⟨ret_i HX.out.symm, bl⟩
  · have HX : Hid (manyM (maskOf (subT a b) k) = x) := by unfold Hid; rw [manyM_mask, ← hx.out]; unfold diffR; rw [if_pos hok]
    have KD := Lib.hid hok.2.2.2
    rw [← subT_len a b] at ho ⊢
    have HO := Lib.hid ho
    have BL := Lib.hid bl
    clear ho bl hok
    generalize subT a b = d at *
    go_wp2_with fail
    with_reducible refine (iMaskSmall _ _ _ d k HO.out.ints (lensK KD.out) KD.out).mono ?_
    rintro e w2 ⟨gm, cm, um, rfl, hm, bl2⟩
    have HM := Lib.hid hm
    have B2 := Lib.hid (BL.out.trans (bl2.mono BL.out.size))
    clear hm bl2
    go_wp2_with fail
    with_reducible refine (iMaskMany _ _ _ _ _ _ _ HM.out (len4K KD.out) (mask4 KD.out k)).mono ?_
    rintro e w3 ⟨rfl, n3, rfl⟩
    go_wp2_with fail
    go_ret
    exact ⟨ret_i HX.out, below_drewN B2.out n3⟩

set_option maxHeartbeats 1000000 in
theorem sDiffRisk (w : World) (P Q : Nat → Prop) (va vb : Value) (a b : List (List Int)) (k x : Int) (ha : IntSS w P va a) (hb : IntSS w Q vb b) (la : lensT a) (lb : lensT b) (hx : Hid (diffR a b k = x)) :
    Calls Try.prog 13 #[va, vb, .int .i64 k] w fun e w' => e = .returned (.int .i64 x) ∧ Below w.heap.size w w' := by
  have HA := Lib.hid ha
  have HB := Lib.hid hb
  have LA := Lib.hid la
  have LB := Lib.hid lb
  obtain ⟨xa, ca, rfl, _, _⟩ := ha
  obtain ⟨xb, cb, rfl, _, _⟩ := hb
  clear la lb
  go_enter Try.func13, Try.ntmps13
  go_wp2_with fail
  with_reducible refine (sDiffTable _ _ _ _ _ a b HA.out HB.out LA.out LB.out).mono ?_
  rintro e w1 ⟨bl, hD⟩
  rcases hD with ⟨hn, v, rfl⟩ | ⟨hok, g, cap, us, rfl, ho⟩
  · have HX : Hid (x = -1) := by unfold Hid; rw [← hx.out]; unfold diffR; rw [if_neg hn]
    clear hn
    go_wp2_with fail
    go_ret
    exact ⟨ret_i HX.out.symm, bl⟩
  · have HX : Hid (manyM (maskOf (subT a b) k) = x) := by unfold Hid; rw [manyM_mask, ← hx.out]; unfold diffR; rw [if_pos hok]
    have KD := Lib.hid hok.2.2.2
    rw [← subT_len a b] at ho ⊢
    have HO := Lib.hid ho
    have BL := Lib.hid bl
    clear ho bl hok
    generalize subT a b = d at *
    go_wp2_with fail
    with_reducible refine (sMaskSmall _ _ _ d k HO.out.ints (lensK KD.out) KD.out).mono ?_
    rintro e w2 ⟨gm, cm, um, rfl, hm, bl2⟩
    have HM := Lib.hid hm
    have B2 := Lib.hid (BL.out.trans (bl2.mono BL.out.size))
    clear hm bl2
    go_wp2_with fail
    with_reducible refine (sMaskMany _ _ _ _ _ _ _ HM.out (len4K KD.out) (mask4 KD.out k)).mono ?_
    rintro e w3 ⟨rfl, n3, rfl⟩
    go_wp2_with fail
    go_ret
    exact ⟨ret_i HX.out, below_drewN B2.out n3⟩

/-- what the drawing gives to a law -/
def DrawnRisk (w : World) (e : Ending) (w' : World) : Prop :=
  ∃ va ta vb tb, ∃ k : Nat, e = .returned (.tuple #[va, vb, .int .i64 (k : Int)]) ∧ IntSS w' (w.heap.size ≤ ·) va ta ∧ IntSS w' (w.heap.size ≤ ·) vb tb ∧ Hid (TblD ta) ∧ Hid (TblD tb) ∧ Below w.heap.size w w'

set_option maxHeartbeats 1000000 in
theorem drawDiffRisk (w : World) (a : Option Addr) (len cap : Nat) (zs : List Int) (h : IsRow .u8 w a len cap zs) :
    Calls Try.prog 12 #[.slice a len cap] w (DrawnRisk w) := by
  have H := Lib.hid h; clear h
  go_enter Try.func12, Try.ntmps12
  go_wp2_with fail
  refine (open_any _ _ _ _ _ H.out).mono ?_
  rintro e w1 ⟨B, a1, l1, c1, z1, hB, rfl, r1, b1⟩
  go_wp2_with fail
  refine (sTwo _ B _ _ _ _ _ r1 (by omega)).mono ?_
  rintro e w2 ⟨va, ta, vb, tb, p', rfl, ha, hb, da, db, hp1, hp2, r2, g2⟩
  have HB1 := r1.lt
  have HA := Lib.hid ha
  have HB := Lib.hid hb
  have R2 := Lib.hid r2
  have B2 := Lib.hid (below_grow b1 g2 hB)
  have hs1 : w.heap.size ≤ w1.heap.size := b1.size
  obtain ⟨xa, ca, rfl, _, _⟩ := ha
  obtain ⟨xb, cb, rfl, _, _⟩ := hb
  clear r1 r2 g2 b1
  go_wp2_with fail
  refine (pick_use _ B a1 l1 c1 z1 p' 6 R2.out (by omega)).mono ?_
  rintro e w3 ⟨k, rfl, hk, r3, g3⟩
  have HA3 := Lib.hid (HA.out.grown g3 (fun k e => by cases e; omega))
  have HB3 := Lib.hid (HB.out.grown g3 (fun k e => by cases e; omega))
  have B3 := Lib.hid (below_grow B2.out g3 hB)
  clear r3 g3
  go_wp2_with fail
  go_ret3
  exact ⟨_, ta, _, tb, k, rfl, HA3.out.mono (fun k h1 _ => by omega), HB3.out.mono (fun k h1 _ => by omega), da, db, B3.out⟩

end Go.Proofs.Ytdlpcoafbmhjjaa
