/- Contracts: a table of zeros, a table turned, in the program. -/
import Derived.Test.YtdlpcoafbmhjjaaDrawT
import Derived.Test.YtdlpcoafbmhjjaaSums
import Derived.Test.YtdlpcoafbmhjjaaValid
import Derived.Test.YtdlpcoafbmhjjaaRndX
import Derived.Test.YtdlpcoafbmhjjaaDrawT2
import Derived.Test.YtdlpcoafbmhjjaaRegJ
import Derived.Test.YtdlpcoafbmhjjaaInRnd
import Derived.Test.YtdlpcoafbmhjjaaCells
import Derived.Test.YtdlpcoafbmhjjaaKeeps
namespace Go.Proofs.Ytdlpcoafbmhjjaa
open Go.RowKit Go.Shelf

attribute [local go_sem] Oper.semAt_some

set_option maxHeartbeats 400000 in
theorem iEmptyTable (w : World) (h c : Nat) (hh : h ≤ 1000) (hc : c ≤ 1000) :
    Calls Try.prog 24 #[.int .i64 (h : Int), .int .i64 (c : Int)] w (CopiedT w (zeroT h c)) := by
  have hmk := run_make_row' (P := Try.prog) 29 42 (.slice none 0 0) 24 Try.underlying29 Try.info_row rfl .i64 .i64 h (by omega) (by omega)
  have hmk2 := run_make_row' (P := Try.prog) 42 3 (.int .i64 0) 8 Try.underlying42 Try.info_int rfl .i64 .i64 c (by omega) (by omega)
  have hzl : (zeroT h c).length = h := by simp [zeroT]
  have HZ := Lib.hid hzl
  clear hzl
  go_enter Try.func24, Try.ntmps24
  go_wp2_with fail
  go_loopw [11] (fun i wr => ∃ us : List Value, us.length ≤ h ∧ i = .int .i64 us.length ∧ PartU wr w.heap.size h (zeroT h c) us ∧ Below w.heap.size w wr) (fun i _ => h - (intOf i).toNat)
  case atStart => exact ⟨[], Nat.zero_le _, rfl, PartU.start w h _, (Below.refl _ _).alloc (Nat.le_refl _) _⟩
  case round =>
    obtain ⟨us, hk, rfl, hp, hbel⟩ := hrel
    have HP := Lib.hid hp
    by_cases hlt : us.length < h
    · have hv1 : OwnI (wr.alloc (.cells (madeCells #[.int .i64 0] c) 3)) wr.heap.size (.slice (some ⟨wr.heap.size, 0, none⟩) c c) ((zeroT h c)[us.length]?.getD []) := by
        have e : (zeroT h c)[us.length]?.getD [] = List.replicate c 0 := by simp [zeroT, hlt]
        rw [e]
        exact OwnI.made wr wr.heap.size c (Nat.le_refl _) (by unfold maxLen; omega)
      have b1 : Below wr.heap.size wr (wr.alloc (.cells (madeCells #[.int .i64 0] c) 3)) := (Below.refl _ _).alloc (Nat.le_refl _) _
      have hst := Lib.hid (HP.out.step hlt b1 hv1)
      have hcell := (b1.cell (p := ⟨w.heap.size, us.length, none⟩) hp.outer.lt).trans (hp.outer.cell hlt)
      have hfro := (b1.frozen (p := ⟨w.heap.size, us.length, none⟩) hp.outer.lt).trans (hp.outer.frozen us.length)
      have hB2 := Lib.hid ((hbel.trans (b1.mono hbel.size)).setCell (p := ⟨w.heap.size, us.length, none⟩) (Nat.le_refl _) (.slice (some ⟨wr.heap.size, 0, none⟩) c c))
      clear hv1 hp b1
      generalize us[us.length]?.getD (.slice none 0 0) = ov at hcell
      go_wp2_with fail
      go_roundw
      case rel => exact ⟨_, by simp; omega, by simp, hst.out, hB2.out⟩
      case measure => simp [intOf]; omega
    · have hfin : Hid (OwnU wr w.heap.size (.slice (some ⟨w.heap.size, 0, none⟩) h h) (zeroT h c) us) := by
        have h1 : PartU wr w.heap.size (zeroT h c).length (zeroT h c) us := by rw [HZ.out]; exact HP.out
        have h2 := h1.done (by rw [HZ.out]; omega) (by rw [HZ.out]; unfold maxLen; omega)
        rw [HZ.out] at h2
        exact h2
      go_wp2_with fail
      go_ret
      exact ⟨_, us, rfl, hfin.out, hbel⟩

theorem cells_mem' {t : List (List Int)} {i j : Nat} (hi : i < t.length) (hj : j < wid t i) : (i, j) ∈ cellsN t := by
  unfold cellsN cellsTo
  rw [List.mem_flatten]
  exact ⟨_, List.mem_map.2 ⟨i, List.mem_range.2 hi, rfl⟩, List.mem_map.2 ⟨j, List.mem_range.2 hj, rfl⟩⟩
/-- the turned table as far as some cells have come -/
def turnTo (t T : List (List Int)) (l : List (Nat × Nat)) : Prop := T.length = wid t 0 ∧ (∀ j, j < wid t 0 → wid T j = t.length) ∧ ∀ p ∈ l, cel T p.2 p.1 = cel t p.1 p.2
theorem turnTo_snoc {t T : List (List Int)} {l : List (Nat × Nat)} (h : turnTo t T l) {i j : Nat} (hi : i < t.length) (hj : j < wid t 0) : turnTo t (setT T j i (cel t i j)) (l ++ [(i, j)]) := by
  obtain ⟨h1, h2, h3⟩ := h
  refine ⟨by rw [setT_len]; exact h1, fun k hk => by rw [setT_wid]; exact h2 k hk, fun p hp => ?_⟩
  rw [setT_cel (by rw [h1]; exact hj) (by rw [h2 j hj]; exact hi)]
  by_cases e : p.2 = j ∧ p.1 = i
  · rw [if_pos e, e.1, e.2]
  · rw [if_neg e]
    rcases List.mem_append.1 hp with hp | hp
    · exact h3 p hp
    · simp at hp; subst hp; exact absurd ⟨rfl, rfl⟩ e
theorem turnTo_all {t T : List (List Int)} (ht : tblOk t) (h : turnTo t T (cellsN t)) : T = turnT t := by
  obtain ⟨h1, h2, h3⟩ := h
  refine tab_ext ⟨by rw [h1, turnT, mkT_len], fun j hj => ?_⟩ (fun j i hj hi => ?_)
  · rw [h1] at hj; rw [h2 j hj, turnT, mkT_wid hj]
  · rw [h1] at hj
    rw [h2 j hj] at hi
    rw [turnT, mkT_cel hj hi]
    exact h3 (i, j) (cells_mem' hi (by rw [(ht.2.2.2.2 i hi).1]; exact hj))

/-- the values of the operations that make the turned table -/
def TurnF (n0 : Nat) (h c b0 o0 cap b2 o2 ci : Nat) : Nat → Value → World → Prop
  | 0, v, _ => v = .slice (some ⟨b0, o0, none⟩) h cap
  | 1, v, _ => v = .pointer (some ⟨b0, o0, none⟩)
  | 2, v, _ => v = .slice (some ⟨b2, o2, none⟩) c ci
  | 3, v, _ => v = .int .i64 (c : Int)
  | 4, v, _ => v = .slice (some ⟨b0, o0, none⟩) h cap
  | 5, v, _ => v = .int .i64 (h : Int)
  | 6, v, W => ∃ g cp us, v = .slice (some ⟨g, 0, none⟩) c cp ∧ OwnU W n0 (.slice (some ⟨g, 0, none⟩) c cp) (zeroT c h) us
  | 7, v, W => ∃ p, v = .pointer (some ⟨p, 0, none⟩) ∧ n0 ≤ p ∧ ∃ u, Boxed W p 29 u
  | _, _, _ => True
theorem turnF_below {n0 h c b0 o0 cap b2 o2 ci : Nat} {W W' : World} (hb : Below W.heap.size W W') : ∀ k v, TurnF n0 h c b0 o0 cap b2 o2 ci k v W → TurnF n0 h c b0 o0 cap b2 o2 ci k v W'
  | 0, _, hf => hf | 1, _, hf => hf | 2, _, hf => hf | 3, _, hf => hf | 4, _, hf => hf | 5, _, hf => hf
  | 6, _, hf => by obtain ⟨g, cp, us, e, ho⟩ := hf; exact ⟨g, cp, us, e, ho.below hb⟩
  | 7, _, hf => by obtain ⟨p, e, hp, u, hu⟩ := hf; exact ⟨p, e, hp, u, boxBelow hu hb hu.lt⟩
  | _ + 8, _, _ => trivial
def TurnJ (W0 : World) (h c b0 o0 cap b2 o2 ci : Nat) (bt : Nat → Bool) (vl : Nat → Value) (W : World) : Prop :=
  Below W0.heap.size W0 W ∧ (∀ k, bt k = true → TurnF W0.heap.size h c b0 o0 cap b2 o2 ci k (vl k) W) ∧ (bt 8 = true → ∃ p, vl 7 = .pointer (some ⟨p, 0, none⟩) ∧ Boxed W p 29 (vl 6))
theorem turnJ_step {W0 : World} {h c b0 o0 cap b2 o2 ci : Nat} {bt : Nat → Bool} {vl : Nat → Value} {W W' : World} (hj : TurnJ W0 h c b0 o0 cap b2 o2 ci bt vl W) {i : Nat} {v : Value} (h8 : i ≠ 8) (hn : bt 8 = true → i ≠ 6 ∧ i ≠ 7) (hb : Below W.heap.size W W')
    (hf : TurnF W0.heap.size h c b0 o0 cap b2 o2 ci i v W') : TurnJ W0 h c b0 o0 cap b2 o2 ci (fun k => if k = i then true else bt k) (fun k => if k = i then v else vl k) W' := by
  obtain ⟨h1, h2, h3⟩ := hj
  refine ⟨h1.trans (hb.mono h1.size), fun k hk => ?_, fun hk => ?_⟩
  · by_cases e : k = i
    · subst e; simpa using hf
    · simp only [if_neg e] at hk ⊢
      exact turnF_below hb k _ (h2 k hk)
  · change (if 8 = i then true else bt 8) = true at hk
    rw [if_neg (Ne.symm h8)] at hk
    obtain ⟨n6, n7⟩ := hn hk
    obtain ⟨p, e, hbx⟩ := h3 hk
    refine ⟨p, ?_, ?_⟩
    · show (if 7 = i then v else vl 7) = _
      rw [if_neg (Ne.symm n7)]; exact e
    · show Boxed W' p _ (if 6 = i then v else vl 6)
      rw [if_neg (Ne.symm n6)]; exact boxBelow hbx hb hbx.lt
theorem turnJ_store {W0 : World} {h c b0 o0 cap b2 o2 ci : Nat} {bt : Nat → Bool} {vl : Nat → Value} {W : World} (hj : TurnJ W0 h c b0 o0 cap b2 o2 ci bt vl W) {p : Nat} {u v : Value} (e7 : vl 7 = .pointer (some ⟨p, 0, none⟩)) (hp : W0.heap.size ≤ p) (hu : Boxed W p 29 u)
    {x : Value} (e6 : vl 6 = x) : TurnJ W0 h c b0 o0 cap b2 o2 ci (fun k => if k = 8 then true else bt k) (fun k => if k = 8 then v else vl k) (W.setCell ⟨p, 0, none⟩ x) := by
  subst e6
  obtain ⟨h1, h2, h3⟩ := hj
  have hg : W.grownBy (W.setCell ⟨p, 0, none⟩ (vl 6)) (some p) := grow_set (grow_refl _ _) _ _
  refine ⟨h1.setCell (p := ⟨p, 0, none⟩) hp _, fun k hk => ?_, fun _ => ⟨p, e7, hu.set _⟩⟩
  have key : ∀ k, k < 8 → bt k = true → TurnF W0.heap.size h c b0 o0 cap b2 o2 ci k (vl k) (W.setCell ⟨p, 0, none⟩ (vl 6)) := by
    intro k hk8 hbk
    have hf := h2 k hbk
    rcases k with _ | _ | _ | _ | _ | _ | _ | _ | k
    · exact hf
    · exact hf
    · exact hf
    · exact hf
    · exact hf
    · exact hf
    · obtain ⟨g, cp, us, e, ho⟩ := hf
      exact ⟨g, cp, us, e, ho.keptB hg (fun q e hb => by cases e; exact box_apart hu ho hb)⟩
    · obtain ⟨q, e, hq, u', hu'⟩ := hf
      have : q = p := by rw [show vl (0 + 1 + 1 + 1 + 1 + 1 + 1 + 1) = vl 7 from rfl, e7] at e; simpa using e.symm
      subst this
      exact ⟨q, e7, hq, _, hu.set _⟩
    · omega
  by_cases e : k = 8
  · subst e; trivial
  · simp only [if_neg e] at hk ⊢
    by_cases hk8 : k < 8
    · exact key k hk8 hk
    · obtain ⟨m, rfl⟩ : ∃ m, k = m + 8 := ⟨k - 8, by omega⟩
      trivial

end Go.Proofs.Ytdlpcoafbmhjjaa
