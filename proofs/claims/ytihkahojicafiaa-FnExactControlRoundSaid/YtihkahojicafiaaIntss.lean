/- Contracts of the laws' helpers on slices of slices: sizes, copies, comparisons. -/
import Derived.Test.YtihkahojicafiaaOwnT
namespace Go.Proofs.Ytihkahojicafiaa
open Go.RowKit

/-- what szIntSS returns -/
def SzP (t : List (List Int)) (left : Int) (w : World) (e : Ending) (w' : World) : Prop :=
  ∃ r, e = .returned (.int .i64 r) ∧ w = w' ∧ -1 ≤ r ∧ r ≤ left ∧ (0 ≤ r → (t.length : Int) ≤ left ∧ ∀ j, j < t.length → ((t[j]?.getD []).length : Int) ≤ left)

set_option maxHeartbeats 400000 in
theorem lSzIntS (w : World) (a : Option Addr) (n cap : Nat) (left : Int) (h0 : 0 ≤ left) (h1 : left ≤ 1048576) (hn : n ≤ 9223372036854775807) :
    Calls Try.prog 51 #[.slice a n cap, .int .i64 left] w fun e w' => e = .returned (.int .i64 (if (n : Int) ≤ left then left - n else -1)) ∧ w = w' := by
  by_cases h : (n : Int) ≤ left
  · rw [if_pos h]
    go_enter Try.func51, Try.ntmps51
    go_wp2_with fail
    go_ret
    exact ⟨rfl, rfl⟩
  · rw [if_neg h]
    have h2 : left - n < 0 := by omega
    go_enter Try.func51, Try.ntmps51
    go_wp2_with fail
    go_ret
    exact ⟨rfl, rfl⟩

set_option maxHeartbeats 400000 in
theorem lSzIntSS (w : World) (P : Nat → Prop) (v : Value) (t : List (List Int)) (left : Int) (h : IntSS w P v t) (h0 : 0 ≤ left) (h1 : left ≤ 1048576) (hl : t.length ≤ 9223372036854775807) (hl2 : ∀ r ∈ t, r.length ≤ 9223372036854775807) :
    Calls Try.prog 22 #[v, .int .i64 left] w (SzP t left w) := by
  obtain ⟨a, cap, rfl, _, hr⟩ := h
  have HR := Lib.hid hr; clear hr
  have HL2 := Lib.hid hl2; clear hl2
  by_cases hs : (t.length : Int) ≤ left
  · go_enter Try.func22, Try.ntmps22
    go_wp2_with fail
    go_loop [1, 5] (fun m i => ∃ (k : Nat) (l : Int), k ≤ t.length ∧ i = .int .i64 k ∧ m = .int .i64 l ∧ 0 ≤ l ∧ l ≤ left ∧ Hid (∀ j, j < k → ((t[j]?.getD []).length : Int) ≤ left)) (fun _ i => t.length - (intOf i).toNat)
    case atStart => exact ⟨0, _, Nat.zero_le _, rfl, rfl, by omega, by omega, fun j hj => by omega⟩
    case round =>
      obtain ⟨k, l, hk, rfl, rfl, l0, l1, hall⟩ := hrel
      by_cases hlt : k < t.length
      · obtain ⟨r, hrr⟩ : ∃ r, t[k]?.getD [] = r := ⟨_, rfl⟩
        obtain ⟨b, off, ai, ci, rfl, _, hc, hi⟩ := HR.out.row hlt r hrr
        have hrl : r.length ≤ 9223372036854775807 := HL2.out r (by rw [← hrr, List.getElem?_eq_getElem hlt]; exact List.getElem_mem hlt)
        have HRR := Lib.hid hrr
        clear hi hrr
        go_wp2_with fail
        with_reducible refine (lSzIntS _ _ _ _ _ l0 (by omega) hrl).mono ?_
        rintro e w' ⟨rfl, rfl⟩
        by_cases hle : (r.length : Int) ≤ l
        · rw [if_pos hle]
          have HN : Hid (∀ j, j < k + 1 → ((t[j]?.getD []).length : Int) ≤ left) := by
            intro j hj
            by_cases e : j = k
            · subst e; rw [HRR.out]; omega
            · exact hall.out j (by omega)
          go_wp2_with fail
          go_round
          case rel => exact ⟨k + 1, _, by omega, by go_num, rfl, by omega, by omega, HN⟩
          case measure => simp [intOf]; omega
        · rw [if_neg hle]
          go_wp2_with fail
          go_ret
          exact ⟨-1, rfl, rfl, by omega, by omega, fun hh => by omega⟩
      · have HA : Hid (∀ j, j < t.length → ((t[j]?.getD []).length : Int) ≤ left) := fun j hj => hall.out j (by omega)
        go_wp2_with fail
        go_ret
        exact ⟨l, rfl, rfl, by omega, l1, fun _ => ⟨hs, HA.out⟩⟩
  · have h2 : left - t.length < 0 := by omega
    go_enter Try.func22, Try.ntmps22
    go_wp2_with fail
    go_ret
    exact ⟨-1, rfl, rfl, by omega, by omega, fun hh => by omega⟩

/-- a table that is being filled: its first rows -/
structure PartU (w : World) (B n : Nat) (t : List (List Int)) (us : List Value) : Prop where
  le : us.length ≤ n
  outer : w.rowIs B 30 n (fun i => us[i]?.getD (.slice none 0 0))
  rows : ∀ i, i < us.length → OwnI w (B + 1) (us[i]?.getD (.slice none 0 0)) (t[i]?.getD [])
  apart : ∀ i j, i < us.length → j < us.length → (us[i]?.getD (.slice none 0 0)).ownBlock = (us[j]?.getD (.slice none 0 0)).ownBlock → i = j

theorem PartU.start (w : World) (n : Nat) (t : List (List Int)) : PartU (w.alloc (.cells (madeCells #[.slice none 0 0] n) 30)) w.heap.size n t [] :=
  ⟨Nat.zero_le _, (World.rowIs_made w (.slice none 0 0) n 30).congr (fun _ _ => rfl), fun i hi => by simp at hi, fun i j hi => by simp at hi⟩

theorem getD_push {us : List Value} {v d : Value} (i : Nat) : (us ++ [v])[i]?.getD d = if i = us.length then v else us[i]?.getD d := by
  by_cases e : i = us.length
  · subst e; simp
  · rw [if_neg e]
    by_cases h : i < us.length
    · rw [List.getElem?_append_left h]
    · rw [List.getElem?_eq_none (by simp; omega), List.getElem?_eq_none (by omega)]

/-- one row more -/
theorem PartU.step {w w1 : World} {B n : Nat} {t : List (List Int)} {us : List Value} (h : PartU w B n t us) (hlt : us.length < n) (hb : Below w.heap.size w w1) {v : Value} (hv : OwnI w1 w.heap.size v (t[us.length]?.getD [])) :
    PartU (w1.setCell ⟨B, us.length, none⟩ v) B n t (us ++ [v]) := by
  have hB := h.outer.lt
  have g1 : w1.grownBy (w1.setCell ⟨B, us.length, none⟩ v) (some B) := grow_set (grow_refl _ _) _ _
  have hold : ∀ i, i < us.length → OwnI (w1.setCell ⟨B, us.length, none⟩ v) (B + 1) (us[i]?.getD (.slice none 0 0)) (t[i]?.getD []) := fun i hi =>
    ((h.rows i hi).kept (row := none) ⟨hb.os, hb.tape, hb.output, hb.size, fun k hk _ => hb.block k hk⟩ (by simp)).kept g1 (fun k e => by cases e; omega)
  have hnew : OwnI (w1.setCell ⟨B, us.length, none⟩ v) w.heap.size v (t[us.length]?.getD []) := hv.kept g1 (fun k e => by cases e; exact hB)
  obtain ⟨gv, cv, rfl, hgv, _⟩ := hv.form
  have hlo : ∀ i, i < us.length → ∃ gi, (us[i]?.getD (.slice none 0 0)).ownBlock = some gi ∧ gi < w.heap.size := fun i hi => by
    obtain ⟨gi, ci, e, _, hgl, _⟩ := (h.rows i hi).form
    exact ⟨gi, by rw [e]; rfl, hgl⟩
  refine ⟨by simp; omega, ?_, ?_, ?_⟩
  · have ho := (h.outer.of_block (w' := w1) (hb.block B hB)).set us.length (.slice (some ⟨gv, 0, none⟩) (t[us.length]?.getD []).length cv)
    refine ho.congr (fun i hi => ?_)
    rw [getD_push]
  · intro i hi
    simp at hi
    rw [getD_push]
    by_cases e : i = us.length
    · subst e; rw [if_pos rfl]; exact ⟨hnew.1.mono (by omega), hnew.2⟩
    · rw [if_neg e]; exact hold i (by omega)
  · intro i j hi hj
    simp at hi hj
    rw [getD_push, getD_push]
    by_cases ei : i = us.length
    · by_cases ej : j = us.length
      · intro _; omega
      · rw [if_pos ei, if_neg ej]
        intro e
        obtain ⟨gj, e2, hl⟩ := hlo j (by omega)
        rw [e2] at e
        simp [Value.ownBlock] at e
        omega
    · by_cases ej : j = us.length
      · rw [if_neg ei, if_pos ej]
        intro e
        obtain ⟨gj, e2, hl⟩ := hlo i (by omega)
        rw [e2] at e
        simp [Value.ownBlock] at e
        omega
      · rw [if_neg ei, if_neg ej]
        exact h.apart i j (by omega) (by omega)

theorem PartU.done {w : World} {B : Nat} {t : List (List Int)} {us : List Value} (h : PartU w B t.length t us) (hl : us.length = t.length) (hm : t.length ≤ maxLen) : OwnU w B (.slice (some ⟨B, 0, none⟩) t.length t.length) t us := by
  refine ⟨hl, ?_, by simp, fun i hi => ⟨(h.rows i (by omega)).1.mono (by omega), (h.rows i (by omega)).2⟩, fun i j hi hj => h.apart i j (by omega) (by omega), fun i hi => ?_⟩
  · obtain ⟨c, hc, hn, hv⟩ := h.outer
    refine ⟨by rw [hl]; simp, .inr ⟨B, t.length, c, rfl, Nat.le_refl _, hc, Nat.le_refl _, hm, by simp [hn], ?_⟩⟩
    apply List.ext_getElem?
    intro i
    by_cases hi : i < t.length
    · rw [List.getElem?_take, if_pos (by omega), Array.getElem?_toList, hv i hi]; simp [List.getElem?_eq_getElem (show i < us.length by omega)]
    · rw [List.getElem?_eq_none (by simp; omega), List.getElem?_eq_none (by omega)]
  · obtain ⟨gi, ci, e, hb, _⟩ := (h.rows i (by omega)).form
    rw [e]
    simp [Value.ownBlock]
    omega

/-- a copy of a table in new memory -/
def CopiedT (w : World) (t : List (List Int)) (e : Ending) (w' : World) : Prop :=
  ∃ v us, e = .returned v ∧ OwnU w' w.heap.size v t us ∧ Below w.heap.size w w'

set_option maxHeartbeats 400000 in
theorem lToIntSS (w : World) (P : Nat → Prop) (v : Value) (t : List (List Int)) (h : IntSS w P v t) (hl : t.length ≤ 1048576) (hl2 : ∀ j, j < t.length → (t[j]?.getD []).length ≤ 1048576) :
    Calls Try.prog 23 #[v] w (CopiedT w t) := by
  have HH := Lib.hid h
  obtain ⟨a, cap, rfl, hcp, hr⟩ := h
  have HL2 := Lib.hid hl2; clear hl2 hr
  have hmk := run_make_row' (P := Try.prog) 23 30 (.slice none 0 0) 24 Try.underlying23 Try.info_row rfl .i64 .i64 t.length (by omega) (by omega)
  go_enter Try.func23, Try.ntmps23
  go_wp2_with fail
  go_loopw [4] (fun i wr => ∃ us : List Value, us.length ≤ t.length ∧ i = .int .i64 us.length ∧ PartU wr w.heap.size t.length t us ∧ Below w.heap.size w wr) (fun i _ => t.length - (intOf i).toNat)
  case atStart => exact ⟨[], Nat.zero_le _, rfl, PartU.start w t.length t, (Below.refl _ _).alloc (Nat.le_refl _) _⟩
  case round =>
    obtain ⟨us, hk, rfl, hp, hbel⟩ := hrel
    have HP := Lib.hid hp
    by_cases hlt : us.length < t.length
    · obtain ⟨r, hrr⟩ : ∃ r, t[us.length]?.getD [] = r := ⟨_, rfl⟩
      have hi0 := HH.out.below hbel
      obtain ⟨a', cap', hv', _, hrows⟩ := hi0
      obtain ⟨rfl, _, rfl⟩ : a = a' ∧ True ∧ cap = cap' := by cases hv'; exact ⟨rfl, trivial, rfl⟩
      obtain ⟨b, off, ai, ci, rfl, _, hc, hi⟩ := hrows.row hlt r hrr
      have HI := Lib.hid hi
      have hrl : r.length ≤ 1048576 := by rw [← hrr]; exact HL2.out _ hlt
      have HRR := Lib.hid hrr
      clear hi hrr hrows hv'
      go_wp2_with fail
      with_reducible refine (lToIntS _ _ _ r HI.out hrl).mono ?_
      rintro e w1 ⟨v1, rfl, o1, b1, n1⟩
      have hv1 : OwnI w1 wr.heap.size v1 (t[us.length]?.getD []) := by rw [HRR.out]; exact ⟨o1, n1⟩
      have hst := Lib.hid (HP.out.step hlt b1 hv1)
      have hcell := (b1.cell (p := ⟨w.heap.size, us.length, none⟩) hp.outer.lt).trans (hp.outer.cell hlt)
      have hfro := (b1.frozen (p := ⟨w.heap.size, us.length, none⟩) hp.outer.lt).trans (hp.outer.frozen us.length)
      have hB2 := Lib.hid ((hbel.trans (b1.mono hbel.size)).setCell (p := ⟨w.heap.size, us.length, none⟩) (Nat.le_refl _) v1)
      obtain ⟨gv, cv, rfl, _⟩ := OwnI.form (w := w1) (base := wr.heap.size) (v := v1) (zs := r) ⟨o1, n1⟩
      clear hv1 o1 n1 hp
      generalize us[us.length]?.getD (.slice none 0 0) = ov at hcell
      go_wp2_with fail
      go_roundw
      case rel => exact ⟨_, by simp; omega, by simp, hst.out, hB2.out⟩
      case measure => simp [intOf]; omega
    · have hfin := Lib.hid (HP.out.done (by omega) (by unfold maxLen; omega))
      go_wp2_with fail
      go_ret
      exact ⟨_, us, rfl, hfin.out, hbel⟩

/-- two tables that read alike are told equal -/
def SameT (w : World) (e : Ending) (w' : World) : Prop := e = .returned (.bool true) ∧ ∃ n, w' = w.drewN n

set_option maxHeartbeats 400000 in
theorem lEqIntSS (w : World) (P Q : Nat → Prop) (v u : Value) (t : List (List Int)) (h : IntSS w P v t) (h2 : IntSS w Q u t) (hl : t.length ≤ 1048576) (hl2 : ∀ j, j < t.length → (t[j]?.getD []).length ≤ 1048576) :
    Calls Try.prog 24 #[v, u] w (SameT w) := by
  obtain ⟨a, cap, rfl, _, hr⟩ := h
  obtain ⟨a2, cap2, rfl, _, hr2⟩ := h2
  have HR := Lib.hid hr; clear hr
  have HR2 := Lib.hid hr2; clear hr2
  have HL2 := Lib.hid hl2; clear hl2
  go_enter Try.func24, Try.ntmps24
  go_wp2_with fail
  go_loopw [5] (fun i wr => ∃ k : Nat, k ≤ t.length ∧ i = .int .i64 k ∧ ∃ n, wr = w.drewN n) (fun i _ => t.length - (intOf i).toNat)
  case atStart => exact ⟨0, Nat.zero_le _, rfl, 0, rfl⟩
  case round =>
    obtain ⟨k, hk, rfl, n, hwr⟩ := hrel
    by_cases hlt : k < t.length
    · obtain ⟨r, hrr⟩ : ∃ r, t[k]?.getD [] = r := ⟨_, rfl⟩
      have R1 : RowsIn wr P a t := by rw [hwr]; exact HR.out
      have R2 : RowsIn wr Q a2 t := by rw [hwr]; exact HR2.out
      obtain ⟨b, off, ai, ci, rfl, _, hc, hi⟩ := R1.row hlt r hrr
      obtain ⟨b2, off2, ai2, ci2, rfl, _, hc2, hi2⟩ := R2.row hlt r hrr
      have HI := Lib.hid hi
      have HI2 := Lib.hid hi2
      have hrl : r.length ≤ 1048576 := by rw [← hrr]; exact HL2.out _ hlt
      have HW := Lib.hid hwr
      clear hi hi2 hrr R1 R2 hwr
      have hki : (k : Int) < (t.length : Int) := by omega
      go_wp2_with fail
      go_quiet ((go_at_call 53; exact Calls.quiet_of (lEqIntS _ P Q _ _ r HI.out HI2.out (by omega))))
      go_wp2_with fail
      go_roundw
      case rel => exact ⟨k + 1, by omega, by go_num, _, by rw [HW.out]; simp; rfl⟩
      case measure => simp [intOf]; omega
    · subst hwr
      go_wp2_with fail
      go_ret
      exact ⟨rfl, n, rfl⟩

end Go.Proofs.Ytihkahojicafiaa
