/- The drawing of two tables: l92Two. -/
import Derived.Test.YtdlpcoafbmhjjaaDrawT2
namespace Go.Proofs.Ytdlpcoafbmhjjaa
open Go.RowKit
attribute [local go_sem ↓] Go.wp_at_zero Go.wp_at_succ

/-- what the drawing of two tables leaves -/
def DrewTwo (w : World) (B : Nat) (a : Option Addr) (len cap : Nat) (zs : List Int) (p : Int) (e : Ending) (w' : World) : Prop :=
  ∃ va ta vb tb p', e = .returned (.tuple #[va, vb]) ∧ IntSS w' (w.heap.size ≤ ·) va ta ∧ IntSS w' (w.heap.size ≤ ·) vb tb ∧ Hid (TblD ta) ∧ Hid (TblD tb) ∧ p ≤ p' ∧ p' ≤ p + 200 ∧ Rd w' B a len cap zs p' ∧ w.grownBy w' (some B)

theorem TblD.lens {t : List (List Int)} (h : TblD t) : t.length ≤ 1000 ∧ ∀ j, j < t.length → 1 ≤ (t[j]?.getD []).length ∧ (t[j]?.getD []).length ≤ 1000 :=
  ⟨by have := h.1; omega, fun j hj => by obtain ⟨h1, h2, _⟩ := h.2 j hj; unfold wid at h1 h2; omega⟩

set_option maxHeartbeats 2000000 in
theorem sTwo (w : World) (B : Nat) (a : Option Addr) (len cap : Nat) (zs : List Int) (p : Int) (h : Rd w B a len cap zs p) (hp : p < 998000) :
    Calls Try.prog 28 #[.pointer (some ⟨B, 0, none⟩)] w (DrewTwo w B a len cap zs p) := by
  have hB := h.lt
  go_enter Try.func28, Try.ntmps28
  go_wp2_with fail
  with_reducible refine (sTableI _ B a len cap zs p 9 h (by omega) (by omega) (by omega)).mono ?_
  rintro e w1 ⟨va, ta, ua, q1, rfl, oa, da, hq1, hq2, r1, g1⟩
  have HA := Lib.hid oa
  have DA := Lib.hid da
  obtain ⟨ga, ca, rfl, hga, hgas, hca1, hca2⟩ := oa.form
  clear oa da h
  go_wp2_with fail
  with_reducible refine (sCopy _ _ _ ta HA.out.ints DA.out.lens.1 DA.out.lens.2).mono ?_
  rintro e w2 ⟨vb, ub, rfl, ob, b2⟩
  have hs1 := g1.size
  have g2 : w.grownBy w2 (some B) := grow_trans g1 (below_grown b2 _)
  have r2 := r1.kept (below_grown b2 none) (by simp)
  have HB := Lib.hid ob
  have HIA : Hid (IntSS w2 (fun k => w.heap.size ≤ k ∧ k < w1.heap.size) (.slice (some ⟨ga, 0, none⟩) ta.length ca) ta) := (HA.out.ints.mono (fun k h1 h2 => ⟨h1, h2⟩)).below b2
  obtain ⟨gb, cb, rfl, hgb, hgbs, hcb1, hcb2⟩ := ob.form
  have hBlt : B < w1.heap.size := by omega
  clear ob r1 g1 b2
  go_wp2_with fail
  go_loopw [6] (fun i wr => ∃ (k : Nat) (t : List (List Int)) (q : Int), k ≤ ta.length ∧ i = .int .i64 k ∧ OwnU wr w1.heap.size (.slice (some ⟨gb, 0, none⟩) ta.length cb) t ub ∧ Hid (TblD t) ∧ Hid (t.length = ta.length ∧ ∀ i, wid t i = wid ta i) ∧ IntSS wr (fun k => w.heap.size ≤ k ∧ k < w1.heap.size) (.slice (some ⟨ga, 0, none⟩) ta.length ca) ta ∧ q1 ≤ q ∧ q ≤ q1 + 4 * k ∧ Rd wr B a len cap zs q ∧ w.grownBy wr (some B)) (fun i _ => ta.length - (intOf i).toNat)
  case atStart => exact ⟨0, ta, q1, Nat.zero_le _, rfl, HB.out, DA, ⟨rfl, fun _ => rfl⟩, HIA.out, by omega, by omega, r2, g2⟩
  case round =>
    obtain ⟨k, t, q, hk, rfl, ho, hd, hs, hia, hq3, hq4, hrd, hg⟩ := hrel
    have hk4 : (k : Int) ≤ 4 := by have := DA.out.1; omega
    by_cases hlt : k < ta.length
    · obtain ⟨gi, ci, hu, hcell, hgi1, hgi2, hgi3, hci1, hci2, hoi⟩ := ho.rowW (i := k) (by rw [hs.out.1]; exact hlt)
      rw [hs.out.2 k] at hcell hu
      have HU := Lib.hid hu
      have hwl : wid ta k ≤ 4 := (DA.out.2 k hlt).2.1
      clear hu hoi hci1 hcell
      obtain ⟨wo, rfl⟩ : ∃ wo : World, wo = wr := ⟨_, rfl⟩
      have hgiB : gi ≠ B := by omega
      have hgbB : gb ≠ B := by omega
      have hrow : ∀ (W : World) (t' : List (List Int)), OwnU W w1.heap.size (.slice (some ⟨gb, 0, none⟩) ta.length cb) t' ub → (t'.length = ta.length ∧ ∀ i, wid t' i = wid ta i) → W.cell? ⟨gb, k, none⟩ = some (.slice (some ⟨gi, 0, none⟩) (wid ta k) ci) := by
        intro W t' hO hS
        obtain ⟨gi', ci', hu', hc', _⟩ := hO.rowW (i := k) (by rw [hS.1]; exact hlt)
        rw [HU.out] at hu'
        rw [hS.2 k] at hu' hc'
        cases hu'
        exact hc'
      have HROW := Lib.hid hrow
      have hcell0 := hrow wo t ho hs.out
      clear hrow
      go_wp2_with fail
      go_loopw [7] (fun j wr => ∃ (m : Nat) (t : List (List Int)) (q2 : Int), m ≤ wid ta k ∧ j = .int .i64 m ∧ OwnU wr w1.heap.size (.slice (some ⟨gb, 0, none⟩) ta.length cb) t ub ∧ Hid (TblD t) ∧ Hid (t.length = ta.length ∧ ∀ i, wid t i = wid ta i) ∧ IntSS wr (fun k => w.heap.size ≤ k ∧ k < w1.heap.size) (.slice (some ⟨ga, 0, none⟩) ta.length ca) ta ∧ q1 ≤ q2 ∧ q2 ≤ q1 + 4 * k + m ∧ Rd wr B a len cap zs q2 ∧ w.grownBy wr (some B)) (fun j _ => wid ta k - (intOf j).toNat)
      case atStart => exact ⟨0, t, q, Nat.zero_le _, rfl, ho, hd, hs, hia, by omega, by omega, hrd, hg⟩
      case round =>
        obtain ⟨m, t2, q2, hm2, rfl, ho2, hd2, hs2, hia2, hq5, hq6, hrd2, hg2⟩ := hrel
        have hcell := HROW.out wr t2 ho2 hs2.out
        have HO2 := Lib.hid ho2
        have HIA2 := Lib.hid hia2
        have RD2 := Lib.hid hrd2
        clear ho hd hs hia hrd hg
        by_cases hlt2 : m < wid ta k
        · obtain ⟨hcm, hfm⟩ := ho2.at (i := k) (by rw [hs2.out.1]; exact hlt) HU.out (j := m) (show m < wid t2 k by rw [hs2.out.2 k]; exact hlt2)
          have hbz := (hd2.out.2 k (by rw [hs2.out.1]; exact hlt)).2.2 m (by rw [hs2.out.2 k]; exact hlt2)
          have hcz : (t2[k]?.getD [])[m]?.getD 0 = cel t2 k m := rfl
          rw [hcz] at hcm
          generalize cel t2 k m = z0 at hcm hbz
          obtain ⟨hb1, hb2⟩ := hbz
          have hgi2' : gi < wr.heap.size := World.block_lt_of_cell? _ _ hcm
          have hki : (k : Int) < (ta.length : Int) := by omega
          have hmi : (m : Int) < (wid ta k : Int) := by omega
          clear ho2 hia2 hrd2 hcz
          go_wp2_with fail
          go_region_with (first
            | (go_at_call 18; (with_reducible refine (pick_use _ B a len cap zs q2 4 RD2.out.drew (by omega)).mono ?_); rintro e w6 ⟨x, rfl, hx, r6, g6⟩; have G6 : Hid (wr.grownBy w6 (some B)) := (ungrow_drew g6); have hcell6 := G6.out.cell hcell (by simp; omega); have hcm6 := G6.out.cell hcm (by simp; omega); have hfm6 := (World.frozen?_of_block (a := ⟨gi, m, none⟩) (G6.out.block gi hgi2' (by simp; omega))).trans hfm; have O6 := Lib.hid (HO2.out.kept G6.out (fun k e => by cases e; exact hBlt)); have I6 := Lib.hid (HIA2.out.grown G6.out (fun k e => by cases e; omega)); have R6 := Lib.hid r6; have hx3 : (x : Int) ≤ 3 := (by omega); clear hx g6 r6))
          all_goals
            have hy1 : Hid (-1 ≤ (if 0 < z0 - (x : Int) then z0 - (x : Int) else 0) ∧ (if 0 < z0 - (x : Int) then z0 - (x : Int) else 0) ≤ 100) := by unfold Hid; split <;> omega
            have HS3 := Lib.hid (O6.out.setT (i := k) (by rw [hs2.out.1]; exact hlt) HU.out m (if 0 < z0 - (x : Int) then z0 - (x : Int) else 0))
            have HD3 := Lib.hid (hd2.out.set (i := k) (j := m) (by rw [hs2.out.1]; exact hlt) (by rw [hs2.out.2 k]; exact hlt2) hy1.out.1 hy1.out.2)
            have HH3 : Hid ((setT t2 k m (if 0 < z0 - (x : Int) then z0 - (x : Int) else 0)).length = ta.length ∧ ∀ i, wid (setT t2 k m (if 0 < z0 - (x : Int) then z0 - (x : Int) else 0)) i = wid ta i) := ⟨by rw [setT_len]; exact hs2.out.1, fun i => by rw [setT_wid]; exact hs2.out.2 i⟩
            have R7 := Lib.hid (R6.out.kept (grow_set (b := gi) (grow_refl _ _) m (.int .i64 (if 0 < z0 - (x : Int) then z0 - (x : Int) else 0))) (fun k e => by cases e; omega))
            have G7 := Lib.hid (grow_beside (grow_trans hg2 G6.out) (grow_set (b := gi) (grow_refl _ _) m (.int .i64 (if 0 < z0 - (x : Int) then z0 - (x : Int) else 0))) (by omega))
            have I7 := Lib.hid (I6.out.grown (grow_set (b := gi) (grow_refl _ _) m (.int .i64 (if 0 < z0 - (x : Int) then z0 - (x : Int) else 0))) (fun k e => by cases e; omega))
            go_wp2_with fail
            go_roundw
            case rel => exact ⟨m + 1, _, _, by omega, by go_num, HS3.out, HD3.out, HH3, I7.out, by omega, by omega, R7.out, G7.out⟩
            case measure => simp [intOf]; omega
        · go_wp2_with fail
          go_roundw
          case rel => exact ⟨k + 1, t2, q2, by omega, by go_num, HO2.out, hd2, hs2, hia2, by omega, by omega, hrd2, hg2⟩
          case measure => simp [intOf]; omega
    · have hrd' := hrd
      go_wp2_with fail
      refine (pick_use _ B a len cap zs _ 12 hrd (by omega)).mono ?_
      rintro e w6 ⟨m, rfl, hm6, r6, g6⟩
      have O6 := Lib.hid (ho.kept g6 (fun k e => by cases e; exact hBlt))
      have I6 := Lib.hid (hia.grown g6 (fun k e => by cases e; omega))
      have G6 := grow_trans hg g6
      clear ho hrd hg g6 hia hrd'
      by_cases m0 : m = 0
      · subst m0
        go_wp2_with fail
        with_reducible refine (sTableI _ B a len cap zs _ 9 r6 (by omega) (by omega) (by omega)).mono ?_
        rintro e w7 ⟨v7, t7, u7, q7, rfl, o7, d7, hq7, hq8, r7, g7⟩
        have I7 := Lib.hid ((O6.out.kept g7 (fun k e => by cases e; exact hBlt)).ints.mono (Q := (w.heap.size ≤ ·)) (fun k h1 _ => by omega))
        have O7 := Lib.hid (o7.ints.mono (Q := (w.heap.size ≤ ·)) (fun k h1 _ => by have := G6.size; omega))
        have D7 := Lib.hid d7
        obtain ⟨g7', c7', rfl, _⟩ := o7.form
        have G7 := Lib.hid (grow_trans G6 g7)
        have R7 := Lib.hid r7
        clear o7 d7 r7 g7 hm6
        go_wp2_with fail
        go_ret2
        exact ⟨_, t, _, t7, _, rfl, I7.out, O7.out, hd, D7, by omega, by omega, R7.out, G7.out⟩
      · have c0 : ((m : Int) == 0) = false := by simp; omega
        have R6 := Lib.hid r6
        clear m0 r6
        go_wp2_with fail
        go_ret2
        exact ⟨_, ta, _, t, _, rfl, I6.out.mono (fun _ h _ => h.1), O6.out.ints.mono (fun k h1 _ => by omega), DA, hd, by omega, by omega, R6.out, G6⟩

/-- what the drawing of two tables gives to a law -/
def DrawnTwo (w : World) (e : Ending) (w' : World) : Prop :=
  ∃ va ta vb tb, e = .returned (.tuple #[va, vb]) ∧ IntSS w' (w.heap.size ≤ ·) va ta ∧ IntSS w' (w.heap.size ≤ ·) vb tb ∧ Hid (TblD ta) ∧ Hid (TblD tb) ∧ Below w.heap.size w w'

end Go.Proofs.Ytdlpcoafbmhjjaa
