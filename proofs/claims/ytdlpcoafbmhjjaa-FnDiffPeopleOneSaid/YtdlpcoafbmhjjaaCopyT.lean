/- Contracts of the program's copying of a table. -/
import Derived.Test.YtdlpcoafbmhjjaaSlices
namespace Go.Proofs.Ytdlpcoafbmhjjaa
open Go.RowKit

set_option maxHeartbeats 400000 in
theorem iClone (w : World) (P : Nat → Prop) (b o ci : Nat) (r : List Int) (h : IntS w P (.slice (some ⟨b, o, none⟩) r.length ci) r) (hr : r.length ≤ 1000) :
    Calls Try.prog 46 #[.slice (some ⟨b, o, none⟩) r.length ci] w fun e w' => ∃ v, e = .returned v ∧ OwnI w' w.heap.size v r ∧ Below w.heap.size w w' := by
  obtain ⟨i0, hi0, hz0, hz1, hz2⟩ := info_parts Try.info_int
  have HI := Lib.hid (h.alloc (.cells #[] 3))
  clear h
  have he : ∀ w : World, (binOp .eql 42 (.slice (some ⟨b, o, none⟩) r.length ci) (.slice none 0 0)).run Try.prog w = .ok (.bool false) w := fun _ => rfl
  go_enter Try.func46, Try.ntmps46
  go_wp2_with (at_builtin; refine wpList_append_own_at _ rfl _ _ 42 rfl w.heap.size 3 i0 (.int .i64 0) 1 8 Try.underlying42 hi0 hz0 hz1 hz2 rfl (by decide) _ _ _ rfl (OwnI.empty w w.heap.size (Nat.le_refl _)).1 ⟨b, o, none⟩ r.length ci (r.map (Value.int .i64)) rfl ?c1 HI.out.srcAt (one_ints _) ?c3 ?c4 ?c5 ?_)
  case c1 => simp
  case c3 => unfold maxLen; simp; omega
  case c4 => simp; omega
  case c5 => simp
  intro v1 w2 hown hgrow hnil hat
  have hv1 : OwnI w2 w.heap.size v1 r := ⟨by simpa using hown, by simpa using hnil⟩
  have g2 : w.grownBy w2 (some w.heap.size) := grow_trans (World.grownBy_alloc _ _ _) hgrow
  have B2 := Lib.hid ((Below.refl w.heap.size w).grown g2 (Nat.le_refl _) (fun q e => by cases e; exact Nat.le_refl _))
  clear hown hgrow hnil hat g2
  go_wp2_with fail
  go_ret
  exact ⟨_, rfl, hv1, B2.out⟩

set_option maxHeartbeats 400000 in
theorem iCopyTable (w : World) (P : Nat → Prop) (v : Value) (t : List (List Int)) (h : IntSS w P v t) (hl : t.length ≤ 1000) (hl2 : ∀ j, j < t.length → 1 ≤ (t[j]?.getD []).length ∧ (t[j]?.getD []).length ≤ 1000) :
    Calls Try.prog 34 #[v] w (CopiedT w t) := by
  have HH := Lib.hid h
  obtain ⟨a, cap, rfl, hcp, hr⟩ := h
  have HL2 := Lib.hid hl2; clear hl2 hr
  have hmk := run_make_row' (P := Try.prog) 29 42 (.slice none 0 0) 24 Try.underlying29 Try.info_row rfl .i64 .i64 t.length (by omega) (by omega)
  go_enter Try.func34, Try.ntmps34
  go_wp2_with fail
  go_loopw [11] (fun i wr => ∃ us : List Value, us.length ≤ t.length ∧ i = .int .i64 us.length ∧ PartU wr w.heap.size t.length t us ∧ Below w.heap.size w wr) (fun i _ => t.length - (intOf i).toNat)
  case atStart => exact ⟨[], Nat.zero_le _, rfl, PartU.start w t.length t, (Below.refl _ _).alloc (Nat.le_refl _) _⟩
  case round =>
    obtain ⟨us, hk, rfl, hp, hbel⟩ := hrel
    have HP := Lib.hid hp
    by_cases hlt : us.length < t.length
    · obtain ⟨r, hrr⟩ : ∃ r, t[us.length]?.getD [] = r := ⟨_, rfl⟩
      have hi0 := HH.out.below hbel
      obtain ⟨a', cap', hv', _, hrows⟩ := hi0
      obtain ⟨rfl, _, rfl⟩ : a = a' ∧ True ∧ cap = cap' := by cases hv'; exact ⟨rfl, trivial, rfl⟩
      obtain ⟨b, off, ai, ci, rfl, _, hc, hi⟩ := hrows.row hlt r hrr
      have hrl := HL2.out _ hlt
      rw [hrr] at hrl
      obtain ⟨b2, o2, rfl, _⟩ := hi.addr hrl.1
      obtain ⟨hrl1, hrl2⟩ := hrl
      have HI := Lib.hid hi
      have HRR := Lib.hid hrr
      clear hi hrr hrows hv'
      go_wp2_with fail
      with_reducible refine (iClone _ _ _ _ _ r HI.out hrl2).mono ?_
      rintro e w1 ⟨v1, rfl, o1, b1⟩
      have hv1 : OwnI w1 wr.heap.size v1 (t[us.length]?.getD []) := by rw [HRR.out]; exact o1
      have hst := Lib.hid (HP.out.step hlt b1 hv1)
      have hcell := (b1.cell (p := ⟨w.heap.size, us.length, none⟩) hp.outer.lt).trans (hp.outer.cell hlt)
      have hfro := (b1.frozen (p := ⟨w.heap.size, us.length, none⟩) hp.outer.lt).trans (hp.outer.frozen us.length)
      have hB2 := Lib.hid ((hbel.trans (b1.mono hbel.size)).setCell (p := ⟨w.heap.size, us.length, none⟩) (Nat.le_refl _) v1)
      obtain ⟨gv, cv, rfl, _⟩ := o1.form
      clear hv1 o1 hp
      generalize us[us.length]?.getD (.slice none 0 0) = ov at hcell
      go_wp2_with fail
      go_roundw
      case rel => exact ⟨_, by simp; omega, by simp, hst.out, hB2.out⟩
      case measure => simp [intOf]; omega
    · have hfin := Lib.hid (HP.out.done (by omega) (by unfold maxLen; omega))
      go_wp2_with fail
      go_ret
      exact ⟨_, us, rfl, hfin.out, hbel⟩

end Go.Proofs.Ytdlpcoafbmhjjaa
