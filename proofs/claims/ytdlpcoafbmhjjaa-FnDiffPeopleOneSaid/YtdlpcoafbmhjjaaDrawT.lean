/- The drawing of tables. -/
import Derived.Test.YtdlpcoafbmhjjaaSlices
import Derived.Test.YtdlpcoafbmhjjaaTabP
import Derived.Deep.RegionWith
import Derived.Deep.DrawnRows
namespace Go.Proofs.Ytdlpcoafbmhjjaa
open Go.RowKit
attribute [local go_sem ↓] Go.wp_at_zero Go.wp_at_succ

set_option maxHeartbeats 400000 in
theorem sCopy (w : World) (P : Nat → Prop) (v : Value) (t : List (List Int)) (h : IntSS w P v t) (hl : t.length ≤ 1000) (hl2 : ∀ j, j < t.length → 1 ≤ (t[j]?.getD []).length ∧ (t[j]?.getD []).length ≤ 1000) :
    Calls Try.prog 42 #[v] w (CopiedT w t) := by
  obtain ⟨i0, hi0, hz0, hz1, hz2⟩ := info_parts Try.info_int
  obtain ⟨j0, hj0, hy0, hy1, hy2⟩ := info_parts Try.info_row
  have HH := Lib.hid h
  obtain ⟨a, cap, rfl, hcp, hr⟩ := h
  have HL2 := Lib.hid hl2; clear hl2 hr
  go_enter Try.func42, Try.ntmps42
  go_wp2_with fail
  go_loopw [3, 4] (fun v i wr => ∃ (k : Nat) (us : List Value), k ≤ t.length ∧ i = .int .i64 k ∧ OwnU wr w.heap.size v (t.take k) us ∧ Below w.heap.size w wr) (fun _ i _ => t.length - (intOf i).toNat)
  case atStart => exact ⟨0, [], Nat.zero_le _, rfl, OwnU.empty w _ (Nat.le_refl _), (Below.refl _ _).alloc (Nat.le_refl _) _⟩
  case round =>
    obtain ⟨k, us, hk, rfl, hp, hbel⟩ := hrel
    have HP := Lib.hid hp
    obtain ⟨g, cp, rfl, hgb, hgs, hcp1, hcp2⟩ := hp.form
    have htk : (t.take k).length = k := by simp; omega
    rw [htk] at hcp1 HP ⊢
    by_cases hlt : k < t.length
    · obtain ⟨r, hrr⟩ : ∃ r, t[k]?.getD [] = r := ⟨_, rfl⟩
      have hi0' := HH.out.below hbel
      obtain ⟨a', cap', hv', _, hrows⟩ := hi0'
      obtain ⟨rfl, _, rfl⟩ : a = a' ∧ True ∧ cap = cap' := by cases hv'; exact ⟨rfl, trivial, rfl⟩
      obtain ⟨b, off, ai, ci, rfl, _, hc, hi⟩ := hrows.row hlt r hrr
      have hrl := HL2.out k hlt
      rw [hrr] at hrl
      obtain ⟨b2, o2, rfl, _⟩ := hi.addr hrl.1
      obtain ⟨hrl1, hrl2⟩ := hrl
      have HI := Lib.hid (hi.alloc (.cells #[] 3))
      have HSN : Hid (t.take (k + 1) = t.take k ++ [r]) := by unfold Hid; rw [List.take_succ_eq_append_getElem hlt]; rw [List.getElem?_eq_getElem hlt] at hrr; simp at hrr; rw [hrr]
      have HTK := Lib.hid htk
      have hcA := fun o => (World.grownBy_alloc wr o none).cell hc (by simp)
      clear hi hrr hrows hv' hp htk
      go_wp2_with (at_builtin; refine wpList_append_own_at _ rfl _ _ 42 rfl wr.heap.size 3 i0 (.int .i64 0) 1 8 Try.underlying42 hi0 hz0 hz1 hz2 rfl (by decide) _ _ _ rfl (OwnI.empty wr wr.heap.size (Nat.le_refl _)).1 ⟨b2, o2, none⟩ r.length ci (r.map (Value.int .i64)) rfl ?c1 HI.out.srcAt (one_ints _) ?c3 ?c4 ?c5 ?_)
      case c3 => unfold maxLen; omega
      case c4 => omega
      intro v1 w2 hown hgrow hnil hat
      have hv1 : OwnI w2 wr.heap.size v1 r := ⟨by simpa using hown, by simpa using hnil⟩
      have g2 : wr.grownBy w2 (some wr.heap.size) := grow_trans (World.grownBy_alloc _ _ _) hgrow
      have HP2 := Lib.hid (HP.out.keptB g2 (fun q e hh => by cases e; have := (HP.out.blk hh).2; omega))
      have B2 := Lib.hid (hbel.grown g2 hbel.size (fun q e => by cases e; exact hbel.size))
      have HV1 := Lib.hid hv1
      have hs2 := g2.size
      obtain ⟨g1, cp1, rfl, hg1, _⟩ := hv1.form
      have hF : Hid (∀ q, (Value.slice (some ⟨g1, 0, none⟩) r.length cp1).ownBlock = some q → ¬ blksU (.slice (some ⟨g, 0, none⟩) k cp) us q) := by
        intro q e hh
        obtain rfl : g1 = q := by simpa [Value.ownBlock] using e
        have := (HP.out.blk hh).2
        omega
      have HOU : Hid (w2.ownsRow w.heap.size 42 1 (.slice (some ⟨g, 0, none⟩) k cp) k us) := by have := HP2.out.outer; rw [HTK.out] at this; exact this
      clear hown hgrow hnil hat hv1 g2
      go_wp2_with (at_builtin; refine wpList_append_own_at _ rfl _ _ 29 rfl w.heap.size 42 j0 (.slice none 0 0) 1 24 Try.underlying29 hj0 hy0 hy1 hy2 rfl (by decide) _ _ _ rfl (HOU.out.alloc _) ⟨w2.heap.size, 0, none⟩ 1 1 [.slice (some ⟨g1, 0, none⟩) r.length cp1] rfl rfl (cell_one_new _ _ _) (by simp [Value.oneCell']) ?d3 ?d4 ?d5 ?_)
      case d3 => unfold maxLen; omega
      case d4 => omega
      case d5 => have := hbel.size; simp; omega
      intro v3 w3 hown hgrow hnil hat
      have ho3 := (HP2.out.alloc (.cells #[.slice (some ⟨g1, 0, none⟩) r.length cp1] 42)).push ((HV1.out.mono hbel.size).alloc _) hF.out (by rw [HTK.out]; exact hown) hgrow (by simpa using hnil) (by rcases hat with e | e; exact .inl e; exact .inr ⟨_, e, by simp⟩)
      rw [← HSN.out] at ho3
      have HO3 := Lib.hid ho3
      have B3 := Lib.hid ((B2.out.alloc (by have := hbel.size; omega) (.cells #[.slice (some ⟨g1, 0, none⟩) r.length cp1] 42)).grown hgrow (by have := hbel.size; simp; omega) (fun q e => by cases e; exact hgb))
      obtain ⟨g4, cp4, hv4, _⟩ := ho3.form
      rw [show (t.take (k + 1)).length = k + 1 by simp; omega] at hv4
      clear hown hgrow hnil hat ho3
      subst hv4
      go_wp2_with fail
      go_roundw
      case rel => exact ⟨k + 1, _, by omega, by go_num, HO3.out, B3.out⟩
      case measure => simp [intOf]; omega
    · have HT : Hid (t.take k = t) := List.take_of_length_le (by omega)
      go_wp2_with fail
      go_ret
      exact ⟨_, us, rfl, by have := HP.out; rw [HT.out] at this; exact this, hbel⟩


/-- a table of zeros -/
def zeroT (h w : Nat) : List (List Int) := List.replicate h (List.replicate w 0)
theorem zeroT_succ (h w : Nat) : zeroT (h + 1) w = zeroT h w ++ [List.replicate w 0] := List.replicate_succ'

set_option maxHeartbeats 400000 in
theorem sBlank (w : World) (h c : Nat) (hh : h ≤ 4) (hc : c ≤ 4) :
    Calls Try.prog 50 #[.int .i64 (h : Int), .int .i64 (c : Int)] w (CopiedT w (zeroT h c)) := by
  obtain ⟨j0, hj0, hy0, hy1, hy2⟩ := info_parts Try.info_row
  have hmk := run_make_row' (P := Try.prog) 42 3 (.int .i64 0) 8 Try.underlying42 Try.info_int rfl .i64 .i64 c (by omega) (by omega)
  go_enter Try.func50, Try.ntmps50
  go_wp2_with fail
  go_loopw [5, 6] (fun v i wr => ∃ (k : Nat) (us : List Value), k ≤ h ∧ i = .int .i64 k ∧ OwnU wr w.heap.size v (zeroT k c) us ∧ Below w.heap.size w wr) (fun _ i _ => h - (intOf i).toNat)
  case atStart => exact ⟨0, [], Nat.zero_le _, rfl, OwnU.empty w _ (Nat.le_refl _), (Below.refl _ _).alloc (Nat.le_refl _) _⟩
  case round =>
    obtain ⟨k, us, hk, rfl, hp, hbel⟩ := hrel
    have HP := Lib.hid hp
    obtain ⟨g, cp, rfl, hgb, hgs, hcp1, hcp2⟩ := hp.form
    have htk : (zeroT k c).length = k := by simp [zeroT]
    rw [htk] at hcp1 HP ⊢
    by_cases hlt : k < h
    · have HTK := Lib.hid htk
      have HV : Hid (OwnI (wr.alloc (.cells (madeCells #[.int .i64 0] c) 3)) w.heap.size (.slice (some ⟨wr.heap.size, 0, none⟩) c c) (List.replicate c 0)) := OwnI.made wr w.heap.size c hbel.size (by unfold maxLen; omega)
      have hF : Hid (∀ q, (Value.slice (some ⟨wr.heap.size, 0, none⟩) c c).ownBlock = some q → ¬ blksU (.slice (some ⟨g, 0, none⟩) k cp) us q) := by
        intro q e hh
        obtain rfl : wr.heap.size = q := by simpa [Value.ownBlock] using e
        have := (HP.out.blk hh).2
        omega
      have HOU : Hid ((wr.alloc (.cells (madeCells #[.int .i64 0] c) 3)).ownsRow w.heap.size 42 1 (.slice (some ⟨g, 0, none⟩) k cp) k us) := by have := (HP.out.alloc (.cells (madeCells #[.int .i64 0] c) 3)).outer; rw [htk] at this; exact this
      clear hp htk
      go_wp2_with (at_builtin; refine wpList_append_own_at _ rfl _ _ 29 rfl w.heap.size 42 j0 (.slice none 0 0) 1 24 Try.underlying29 hj0 hy0 hy1 hy2 rfl (by decide) _ _ _ rfl (HOU.out.alloc _) ⟨wr.heap.size + 1, 0, none⟩ 1 1 [.slice (some ⟨wr.heap.size, 0, none⟩) c c] rfl rfl ?d2 (by simp [Value.oneCell']) ?d3 ?d4 ?d5 ?_)
      case d2 => have := cell_one_new (wr.alloc (.cells (madeCells #[.int .i64 0] c) 3)) (.slice (some ⟨wr.heap.size, 0, none⟩) c c) 42; rw [World.size_alloc] at this; exact this
      case d3 => unfold maxLen; omega
      case d4 => omega
      case d5 => have := hbel.size; simp; omega
      intro v3 w3 hown hgrow hnil hat
      have ho3 := ((HP.out.alloc (.cells (madeCells #[.int .i64 0] c) 3)).alloc (.cells #[.slice (some ⟨wr.heap.size, 0, none⟩) c c] 42)).push (HV.out.alloc _) hF.out (by rw [HTK.out]; exact hown) hgrow (by simpa using hnil) (by rcases hat with e | e; exact .inl e; exact .inr ⟨_, e, by simp⟩)
      rw [← zeroT_succ] at ho3
      have HO3 := Lib.hid ho3
      have B3 := Lib.hid (((hbel.alloc hbel.size (.cells (madeCells #[.int .i64 0] c) 3)).alloc (by have := hbel.size; simp; omega) (.cells #[.slice (some ⟨wr.heap.size, 0, none⟩) c c] 42)).grown hgrow (by have := hbel.size; simp; omega) (fun q e => by cases e; exact hgb))
      obtain ⟨g4, cp4, hv4, _⟩ := ho3.form
      rw [show (zeroT (k + 1) c).length = k + 1 by simp [zeroT]] at hv4
      clear hown hgrow hnil hat ho3
      subst hv4
      go_wp2_with fail
      go_roundw
      case rel => exact ⟨k + 1, _, by omega, by go_num, HO3.out, B3.out⟩
      case measure => simp [intOf]; omega
    · obtain rfl : k = h := by omega
      go_wp2_with fail
      go_ret
      exact ⟨_, us, rfl, HP.out, hbel⟩

/-- what is drawn for a table: few rows, none empty, small numbers -/
def TblD (t : List (List Int)) : Prop := t.length ≤ 4 ∧ ∀ i, i < t.length → 1 ≤ wid t i ∧ wid t i ≤ 4 ∧ ∀ j, j < wid t i → -1 ≤ cel t i j ∧ cel t i j ≤ 100

theorem zeroT_wid {h c i : Nat} (hi : i < h) : wid (zeroT h c) i = c := by simp [wid, zeroT, hi]
theorem zeroT_cel (h c i j : Nat) : cel (zeroT h c) i j = 0 := by
  unfold cel zeroT
  by_cases hi : i < h
  · rw [List.getElem?_replicate, if_pos hi, Option.getD_some, List.getElem?_replicate]; split <;> rfl
  · have e : (List.replicate h (List.replicate c (0 : Int)))[i]? = none := List.getElem?_eq_none (by simp; omega)
    rw [e]; rfl
/-- a cell is written -/
def setT (t : List (List Int)) (i j : Nat) (x : Int) : List (List Int) := t.set i ((t[i]?.getD []).set j x)
theorem setT_len (t : List (List Int)) (i j : Nat) (x : Int) : (setT t i j x).length = t.length := by simp [setT]
theorem setT_wid (t : List (List Int)) (i j k : Nat) (x : Int) : wid (setT t i j x) k = wid t k := by
  unfold wid setT
  by_cases hi : i < t.length
  · rw [getD_set hi]
    by_cases e : k = i
    · subst e; rw [if_pos rfl, List.length_set]
    · rw [if_neg e]
  · rw [List.set_eq_of_length_le (by omega)]
theorem setT_cel {t : List (List Int)} {i j : Nat} (hi : i < t.length) (hj : j < wid t i) (x : Int) (k q : Nat) : cel (setT t i j x) k q = if k = i ∧ q = j then x else cel t k q := by
  unfold cel setT
  rw [getD_set hi]
  by_cases e : k = i
  · subst e
    rw [if_pos rfl, List.getElem?_set]
    by_cases e2 : j = q
    · subst e2; rw [if_pos rfl, if_pos (show j < (t[k]?.getD []).length from hj), if_pos ⟨rfl, rfl⟩]; rfl
    · rw [if_neg e2, if_neg (fun h => e2 h.2.symm)]
  · rw [if_neg e, if_neg (fun h => e h.1)]
theorem TblD.set {t : List (List Int)} (h : TblD t) {i j : Nat} (hi : i < t.length) (hj : j < wid t i) {x : Int} (h1 : -1 ≤ x) (h2 : x ≤ 100) : TblD (setT t i j x) := by
  refine ⟨by rw [setT_len]; exact h.1, fun k hk => ?_⟩
  rw [setT_len] at hk
  rw [setT_wid]
  obtain ⟨a, b, c⟩ := h.2 k hk
  refine ⟨a, b, fun q hq => ?_⟩
  rw [setT_cel hi hj]
  split
  · exact ⟨h1, h2⟩
  · exact c q hq
theorem TblD.zero {h c : Nat} (hh : h ≤ 4) (h1 : 1 ≤ c) (h2 : c ≤ 4) : TblD (zeroT h c) := by
  refine ⟨by simp [zeroT]; exact hh, fun i hi => ?_⟩
  have hi' : i < h := by simpa [zeroT] using hi
  rw [zeroT_wid hi']
  exact ⟨h1, h2, fun j _ => by rw [zeroT_cel]; omega⟩

end Go.Proofs.Ytdlpcoafbmhjjaa
