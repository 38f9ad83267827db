/- Pers, Ppl, PplO, PplD, PplS, PplW, PplX, PplZ in one text. (Put together by wip/tools/merge.py.) -/
import Derived.Test.YtdlpcoafbmhjjaaIn
import Derived.Test.YtdlpcoafbmhjjaaIntss
import Derived.Test.YtdlpcoafbmhjjaaShape
import Derived.Deep.QuietTactic
import Derived.BigQuiet
import Derived.Test.YtdlpcoafbmhjjaaSlices
import Derived.Lib.SlBuf
import Derived.Lib.SliceRun
import Derived.Test.YtdlpcoafbmhjjaaDraw2
import Derived.Test.YtdlpcoafbmhjjaaRegS
import Derived.Test.YtdlpcoafbmhjjaaKeyD0
import Derived.Deep.DeepCutAuto
namespace Go.Proofs.Ytdlpcoafbmhjjaa
open Go.RowKit

/-- a person: area, job, sex, pay -/
abbrev Pers := Int × Int × Int × Int
/-- a person's value -/
def pv (p : Pers) : Value := .agg #[.int .i64 p.1, .int .i64 p.2.1, .int .i64 p.2.2.1, .int .i64 p.2.2.2]
/-- a person is valid -/
def persOk (p : Pers) : Prop := (0 ≤ p.1 ∧ p.1 < 4) ∧ (0 ≤ p.2.1 ∧ p.2.1 < 4) ∧ (p.2.2.1 = 0 ∨ p.2.2.1 = 1) ∧ 0 ≤ p.2.2.2 ∧ p.2.2.2 ≤ 999
instance (p : Pers) : Decidable (persOk p) := by unfold persOk; infer_instance

set_option maxHeartbeats 400000 in
theorem iIsCode (w : World) (c : Int) : Calls Try.prog 48 #[.int .i64 c] w fun e w' => e = .returned (.bool (decide (0 ≤ c ∧ c < 4))) ∧ w = w' := by
  by_cases h0 : 0 ≤ c
  · have d0 : decide (0 ≤ c) = true := by simpa using h0
    have e : decide (0 ≤ c ∧ c < 4) = decide (c < 4) := by simp [h0]
    rw [e]
    clear e h0
    go_enter Try.func48, Try.ntmps48
    go_wp2_with fail
    go_ret
    exact ⟨rfl, rfl⟩
  · have d0 : decide (0 ≤ c) = false := by simpa using h0
    have e : decide (0 ≤ c ∧ c < 4) = false := by simp [h0]
    rw [e]
    clear e h0
    go_enter Try.func48, Try.ntmps48
    go_wp2_with fail
    go_ret
    exact ⟨rfl, rfl⟩

set_option maxHeartbeats 400000 in
theorem iIsSex (w : World) (c : Int) : Calls Try.prog 49 #[.int .i64 c] w fun e w' => e = .returned (.bool (decide (c = 0 ∨ c = 1))) ∧ w = w' := by
  by_cases h0 : c = 0
  · subst h0
    go_enter Try.func49, Try.ntmps49
    go_wp2_with fail
    go_ret
    exact ⟨rfl, rfl⟩
  · have d0 : (c == 0) = false := by simpa using h0
    have e : decide (c = 0 ∨ c = 1) = (c == 1) := by rw [show (c == 1) = decide (c = 1) from rfl]; simp [h0]
    rw [e]
    clear e h0
    go_enter Try.func49, Try.ntmps49
    go_wp2_with fail
    go_ret
    exact ⟨rfl, rfl⟩

set_option maxRecDepth 100000 in
set_option maxHeartbeats 1000000 in
theorem iPersonValid (w : World) (a j s y : Int) : Calls Try.prog 39 #[.agg #[.int .i64 a, .int .i64 j, .int .i64 s, .int .i64 y]] w fun e w' => e = .returned (.bool (decide (persOk (a, j, s, y)))) ∧ Below w.heap.size w w' := by
  have B0 : Hid (Below w.heap.size w (w.alloc (.cells #[.int .i64 a, .int .i64 j, .int .i64 s, .int .i64 y] 46))) := (Below.refl _ _).alloc (Nat.le_refl _) _
  have no : ¬ persOk (a, j, s, y) → Hid (false = decide (persOk (a, j, s, y))) := fun h => (decide_eq_false h).symm
  go_enter Try.func39, Try.ntmps39
  go_wp2_with fail
  with_reducible refine (iIsCode _ a).mono ?_
  rintro e w' ⟨rfl, rfl⟩
  by_cases h1 : 0 ≤ a ∧ a < 4
  rotate_left
  · have N := no (fun h => h1 h.1)
    rw [decide_eq_false h1]
    clear h1 no
    go_wp2_with fail
    go_ret
    exact ⟨ret_b N.out, B0.out⟩
  rw [decide_eq_true h1]
  go_wp2_with fail
  with_reducible refine (iIsCode _ j).mono ?_
  rintro e w' ⟨rfl, rfl⟩
  by_cases h2 : 0 ≤ j ∧ j < 4
  rotate_left
  · have N := no (fun h => h2 h.2.1)
    rw [decide_eq_false h2]
    clear h1 h2 no
    go_wp2_with fail
    go_ret
    exact ⟨ret_b N.out, B0.out⟩
  rw [decide_eq_true h2]
  go_wp2_with fail
  with_reducible refine (iIsSex _ s).mono ?_
  rintro e w' ⟨rfl, rfl⟩
  by_cases h3 : s = 0 ∨ s = 1
  rotate_left
  · have N := no (fun h => h3 h.2.2.1)
    rw [decide_eq_false h3]
    clear h1 h2 h3 no
    go_wp2_with fail
    go_ret
    exact ⟨ret_b N.out, B0.out⟩
  rw [decide_eq_true h3]
  by_cases h4 : 0 ≤ y
  rotate_left
  · have N := no (fun h => h4 h.2.2.2.1)
    have d4 : decide (0 ≤ y) = false := by simpa using h4
    clear h1 h2 h3 h4 no
    go_wp2_with fail
    go_ret
    exact ⟨ret_b N.out, B0.out⟩
  have N : Hid (decide (y ≤ 999) = decide (persOk (a, j, s, y))) := decide_eq_decide.2 ⟨fun h => ⟨h1, h2, h3, h4, h⟩, fun h => h.2.2.2.2⟩
  have d4 : decide (0 ≤ y) = true := by simpa using h4
  clear h1 h2 h3 h4 no
  go_wp2_with fail
  go_ret
  exact ⟨ret_b N.out, B0.out⟩

set_option maxRecDepth 100000 in
set_option maxHeartbeats 1000000 in
theorem sPersonValid (w : World) (a j s y : Int) : Calls Try.prog 40 #[.agg #[.int .i64 a, .int .i64 j, .int .i64 s, .int .i64 y]] w fun e w' => e = .returned (.bool (decide (persOk (a, j, s, y)))) ∧ Below w.heap.size w w' := by
  have B0 : Hid (Below w.heap.size w (w.alloc (.cells #[.int .i64 a, .int .i64 j, .int .i64 s, .int .i64 y] 46))) := (Below.refl _ _).alloc (Nat.le_refl _) _
  have no : ¬ persOk (a, j, s, y) → Hid (false = decide (persOk (a, j, s, y))) := fun h => (decide_eq_false h).symm
  go_enter Try.func40, Try.ntmps40
  go_wp2_with fail
  by_cases h1 : 0 ≤ a ∧ a < 4
  rotate_left
  · have N := no (fun h => h1 h.1)
    with_reducible refine (sIn_f a 0 3 _ (by omega)).mono ?_
    rintro e w' ⟨rfl, rfl⟩
    clear h1 no
    go_wp2_with fail
    go_ret
    exact ⟨ret_b N.out, B0.out⟩
  with_reducible refine (sIn_t a 0 3 _ (by omega) (by omega)).mono ?_
  rintro e w' ⟨rfl, rfl⟩
  go_wp2_with fail
  by_cases h2 : 0 ≤ j ∧ j < 4
  rotate_left
  · have N := no (fun h => h2 h.2.1)
    with_reducible refine (sIn_f j 0 3 _ (by omega)).mono ?_
    rintro e w' ⟨rfl, rfl⟩
    clear h1 h2 no
    go_wp2_with fail
    go_ret
    exact ⟨ret_b N.out, B0.out⟩
  with_reducible refine (sIn_t j 0 3 _ (by omega) (by omega)).mono ?_
  rintro e w' ⟨rfl, rfl⟩
  go_wp2_with fail
  by_cases h3 : s = 0 ∨ s = 1
  rotate_left
  · have N := no (fun h => h3 h.2.2.1)
    with_reducible refine (sIn_f s 0 1 _ (by omega)).mono ?_
    rintro e w' ⟨rfl, rfl⟩
    clear h1 h2 h3 no
    go_wp2_with fail
    go_ret
    exact ⟨ret_b N.out, B0.out⟩
  with_reducible refine (sIn_t s 0 1 _ (by omega) (by omega)).mono ?_
  rintro e w' ⟨rfl, rfl⟩
  go_wp2_with fail
  by_cases h4 : 0 ≤ y ∧ y ≤ 999
  rotate_left
  · have N := no (fun h => h4 h.2.2.2)
    with_reducible refine (sIn_f y 0 999 _ (by omega)).mono ?_
    rintro e w' ⟨rfl, rfl⟩
    clear h1 h2 h3 h4 no
    go_wp2_with fail
    go_ret
    exact ⟨ret_b N.out, B0.out⟩
  have N : Hid (true = decide (persOk (a, j, s, y))) := (decide_eq_true ⟨h1, h2, h3, h4⟩).symm
  with_reducible refine (sIn_t y 0 999 _ (by omega) (by omega)).mono ?_
  rintro e w' ⟨rfl, rfl⟩
  clear h1 h2 h3 h4 no
  go_wp2_with fail
  go_ret
  exact ⟨ret_b N.out, B0.out⟩

end Go.Proofs.Ytdlpcoafbmhjjaa

namespace Go.Proofs.Ytdlpcoafbmhjjaa
open Go.RowKit

/-- the cells of a person -/
def pc (p : Pers) (c : Nat) : Value := match c with | 0 => .int .i64 p.1 | 1 => .int .i64 p.2.1 | 2 => .int .i64 p.2.2.1 | _ => .int .i64 p.2.2.2
abbrev p0 : Pers := (0, 0, 0, 0)
/-- behind the address a lie the persons ps, in blocks of which P holds -/
def PplIn (w : World) (P : Nat → Prop) (a : Option Addr) (ps : List Pers) : Prop :=
  ∀ i, i < ps.length → ∃ b off, a = some ⟨b, off, none⟩ ∧ P b ∧ ∀ c, c < 4 → w.cell? ⟨b, off + i * 4 + c, none⟩ = some (pc (ps[i]?.getD p0) c)
/-- the value v is a slice of the persons ps -/
def PplS (w : World) (P : Nat → Prop) (v : Value) (ps : List Pers) : Prop :=
  ∃ a cap, v = .slice a ps.length cap ∧ ps.length ≤ cap ∧ PplIn w P a ps
/-- a list of people is valid -/
def pplOk (ps : List Pers) : Prop := (∀ i, i < ps.length → persOk (ps[i]?.getD p0)) ∧ ps.length ≤ 40
instance (ps : List Pers) : Decidable (pplOk ps) := by unfold pplOk; infer_instance

theorem PplS.below {w w' : World} {P : Nat → Prop} {v : Value} {ps : List Pers} (h : PplS w P v ps) (hb : Below w.heap.size w w') : PplS w' P v ps := by
  obtain ⟨a, cap, rfl, hl, hr⟩ := h
  refine ⟨a, cap, rfl, hl, fun i hi => ?_⟩
  obtain ⟨b, off, rfl, hP, hc⟩ := hr i hi
  exact ⟨b, off, rfl, hP, fun c hc4 => (hb.cell (p := ⟨b, off + i * 4 + c, none⟩) (World.block_lt_of_cell? _ _ (hc c hc4))).trans (hc c hc4)⟩
theorem PplS.mono {w : World} {P Q : Nat → Prop} {v : Value} {ps : List Pers} (h : PplS w P v ps) (hPQ : ∀ k, P k → k < w.heap.size → Q k) : PplS w Q v ps := by
  obtain ⟨a, cap, rfl, hl, hr⟩ := h
  refine ⟨a, cap, rfl, hl, fun i hi => ?_⟩
  obtain ⟨b, off, rfl, hP, hc⟩ := hr i hi
  exact ⟨b, off, rfl, hPQ b hP (World.block_lt_of_cell? _ _ (hc 0 (by omega))), hc⟩

set_option maxRecDepth 100000 in
set_option maxHeartbeats 1000000 in
theorem iPeopleValid (w : World) (P : Nat → Prop) (v : Value) (ps : List Pers) (h : PplS w P v ps) (hl : ps.length ≤ 1000) :
    Calls Try.prog 19 #[v] w fun e w' => e = .returned (.bool (decide (pplOk ps))) ∧ Below w.heap.size w w' := by
  have H := Lib.hid h
  obtain ⟨a, cap, rfl, _, _⟩ := h
  go_enter Try.func19, Try.ntmps19
  go_wp2_with fail
  go_loopw [7] (fun i wr => ∃ k : Nat, k ≤ ps.length ∧ i = .int .i64 k ∧ Hid (∀ j, j < k → persOk (ps[j]?.getD p0)) ∧ Hid (Below w.heap.size w wr)) (fun i _ => ps.length - (intOf i).toNat)
  case atStart => exact ⟨0, Nat.zero_le _, rfl, fun j hj => by omega, Below.refl _ _⟩
  case round =>
    obtain ⟨k, hk, rfl, hall, hbl⟩ := hrel
    by_cases hlt : k < ps.length
    · obtain ⟨_, _, ea, _, ra⟩ := H.out.below hbl.out
      cases ea
      obtain ⟨b, off, rfl, _, hc⟩ := ra k hlt
      have q0 := hc 0 (by omega)
      have q1 := hc 1 (by omega)
      have q2 := hc 2 (by omega)
      have q3 := hc 3 (by omega)
      obtain ⟨p, hp⟩ : ∃ p, ps[k]?.getD p0 = p := ⟨_, rfl⟩
      rw [hp] at q0 q1 q2 q3
      obtain ⟨a, j, s, y⟩ := p
      simp only [pc, Nat.add_zero] at q0 q1 q2 q3
      have kn : (k : Int) < (ps.length : Int) := by omega
      have HP := Lib.hid hp
      have hbA : Hid (∀ o, Below w.heap.size w (wr.alloc o)) := fun o => hbl.out.alloc hbl.out.size o
      clear hc ra hp
      go_wp2_with fail
      with_reducible refine (iPersonValid _ a j s y).mono ?_
      rintro e w1 ⟨rfl, b1⟩
      have B1 := Lib.hid ((hbA.out _).trans (b1.mono (hbA.out _).size))
      clear b1
      by_cases hk2 : persOk (a, j, s, y)
      · have HN : Hid (∀ i, i < k + 1 → persOk (ps[i]?.getD p0)) := fun i hi => by
          by_cases e : i = k
          · subst e; rw [HP.out]; exact hk2
          · exact hall.out i (by omega)
        rw [decide_eq_true hk2]
        clear hk2
        go_wp2_with fail
        go_roundw
        case rel => exact ⟨k + 1, by omega, by go_num, HN, B1⟩
        case measure => simp [intOf]; omega
      · have HN : Hid (decide (pplOk ps) = false) := decide_eq_false (fun h => hk2 (by have := h.1 k hlt; rw [HP.out] at this; exact this))
        rw [decide_eq_false hk2]
        clear hk2
        go_wp2_with fail
        go_ret
        exact ⟨ret_b HN.out.symm, B1.out⟩
    · have HN : Hid (decide ((ps.length : Int) ≤ 40) = decide (pplOk ps)) := decide_eq_decide.2 ⟨fun h => ⟨fun i hi => hall.out i (by omega), by omega⟩, fun h => by have := h.2; omega⟩
      go_wp2_with fail
      go_ret
      exact ⟨ret_b HN.out, hbl.out⟩

set_option maxRecDepth 100000 in
set_option maxHeartbeats 1000000 in
theorem sPeopleValid (w : World) (P : Nat → Prop) (v : Value) (ps : List Pers) (h : PplS w P v ps) (hl : ps.length ≤ 1000) :
    Calls Try.prog 22 #[v] w fun e w' => e = .returned (.bool (decide (pplOk ps))) ∧ Below w.heap.size w w' := by
  have H := Lib.hid h
  obtain ⟨a, cap, rfl, _, _⟩ := h
  go_enter Try.func22, Try.ntmps22
  go_wp2_with fail
  go_loopw [3] (fun i wr => ∃ k : Nat, k ≤ ps.length ∧ i = .int .i64 k ∧ Hid (∀ j, j < k → persOk (ps[j]?.getD p0)) ∧ Hid (Below w.heap.size w wr)) (fun i _ => ps.length - (intOf i).toNat)
  case atStart => exact ⟨0, Nat.zero_le _, rfl, fun j hj => by omega, Below.refl _ _⟩
  case round =>
    obtain ⟨k, hk, rfl, hall, hbl⟩ := hrel
    by_cases hlt : k < ps.length
    · obtain ⟨_, _, ea, _, ra⟩ := H.out.below hbl.out
      cases ea
      obtain ⟨b, off, rfl, _, hc⟩ := ra k hlt
      have q0 := hc 0 (by omega)
      have q1 := hc 1 (by omega)
      have q2 := hc 2 (by omega)
      have q3 := hc 3 (by omega)
      obtain ⟨p, hp⟩ : ∃ p, ps[k]?.getD p0 = p := ⟨_, rfl⟩
      rw [hp] at q0 q1 q2 q3
      obtain ⟨a, j, s, y⟩ := p
      simp only [pc, Nat.add_zero] at q0 q1 q2 q3
      have kn : (k : Int) < (ps.length : Int) := by omega
      have HP := Lib.hid hp
      clear hc ra hp
      go_wp2_with fail
      with_reducible refine (sPersonValid _ a j s y).mono ?_
      rintro e w1 ⟨rfl, b1⟩
      have B1 := Lib.hid (hbl.out.trans (b1.mono hbl.out.size))
      clear b1
      by_cases hk2 : persOk (a, j, s, y)
      · have HN : Hid (∀ i, i < k + 1 → persOk (ps[i]?.getD p0)) := fun i hi => by
          by_cases e : i = k
          · subst e; rw [HP.out]; exact hk2
          · exact hall.out i (by omega)
        rw [decide_eq_true hk2]
        clear hk2
        go_wp2_with fail
        go_roundw
        case rel => exact ⟨k + 1, by omega, by go_num, HN, B1⟩
        case measure => simp [intOf]; omega
      · have HN : Hid (decide (pplOk ps) = false) := decide_eq_false (fun h => hk2 (by have := h.1 k hlt; rw [HP.out] at this; exact this))
        rw [decide_eq_false hk2]
        clear hk2
        go_wp2_with fail
        go_ret
        exact ⟨ret_b HN.out.symm, B1.out⟩
    · have HN : Hid (decide ((ps.length : Int) ≤ 40) = decide (pplOk ps)) := decide_eq_decide.2 ⟨fun h => ⟨fun i hi => hall.out i (by omega), by omega⟩, fun h => by have := h.2; omega⟩
      go_wp2_with fail
      go_ret
      exact ⟨ret_b HN.out, hbl.out⟩

theorem PplS.drewN {w : World} {P : Nat → Prop} {v : Value} {ps : List Pers} (h : PplS w P v ps) (n : Nat) : PplS (w.drewN n) P v ps := h.below (below_drewN (Below.refl _ _) n)
theorem ppl_ext {ps qs : List Pers} (hl : ps.length = qs.length) (h : ∀ i, i < ps.length → ps[i]?.getD p0 = qs[i]?.getD p0) : ps = qs := by
  refine List.ext_getElem hl (fun i h1 h2 => ?_)
  have := h i h1
  rwa [List.getElem?_eq_getElem h1, List.getElem?_eq_getElem h2] at this


set_option maxRecDepth 100000 in
theorem pers_eql (w : World) (a j s y a2 j2 s2 y2 : Int) : (Op.equalIn 10000 46 (.agg #[.int .i64 a, .int .i64 j, .int .i64 s, .int .i64 y]) (.agg #[.int .i64 a2, .int .i64 j2, .int .i64 s2, .int .i64 y2])).run Try.prog w = .ok (decide ((a, j, s, y) = (a2, j2, s2, y2))) w := by
  have hf : Try.prog.fieldsOf 46 = (match Try.prog.underlying 46 with | some (.struct fs) => fs | _ => #[]) := rfl
  have ht : Try.prog.underlying 46 = some (.struct (Try.prog.fieldsOf 46)) := by rw [hf, Try.underlying46]
  have hp : Try.prog.stoodInHeld 46 = false := by kernel_rfl
  rw [run_equalIn_agg w 9999 _ _ _ ht hp, hf, Try.underlying46]
  simp only [Prod.mk.injEq]
  by_cases h1 : a = a2 <;> by_cases h2 : j = j2 <;> by_cases h3 : s = s2 <;> by_cases h4 : y = y2 <;> simp [go_sem, Op.eqFields, h1, h2, h3, h4]
theorem pers_neq (w : World) (a j s y a2 j2 s2 y2 : Int) : (binOp .neq 46 (.agg #[.int .i64 a, .int .i64 j, .int .i64 s, .int .i64 y]) (.agg #[.int .i64 a2, .int .i64 j2, .int .i64 s2, .int .i64 y2])).run Try.prog w = .ok (.bool (!decide ((a, j, s, y) = (a2, j2, s2, y2)))) w := by
  rw [run_neq_struct, pers_eql]
  rfl

set_option maxRecDepth 100000 in
set_option maxHeartbeats 1000000 in
theorem lSamePeople (w : World) (P Q : Nat → Prop) (v u : Value) (ps qs : List Pers) (h : PplS w P v ps) (h2 : PplS w Q u qs) (hl : ps.length ≤ 1000) :
    Calls Try.prog 8 #[v, u] w fun e w' => e = .returned (.bool (decide (ps = qs))) ∧ Below w.heap.size w w' := by
  have H := Lib.hid h
  have H2 := Lib.hid h2
  obtain ⟨a, cap, rfl, _, _⟩ := h
  obtain ⟨a2, cap2, rfl, _, _⟩ := h2
  by_cases hn : ps.length = qs.length
  rotate_left
  · have HN : Hid (decide (ps = qs) = false) := decide_eq_false (fun h => hn (by rw [h]))
    have c1 : ((ps.length : Int) != (qs.length : Int)) = true := by simp; omega
    clear hn
    go_enter Try.func8, Try.ntmps8
    go_wp2_with fail
    go_ret
    exact ⟨ret_b HN.out.symm, Below.refl _ _⟩
  have c1 : ((ps.length : Int) != (qs.length : Int)) = false := by simp; omega
  have HL := Lib.hid hn
  clear hn
  go_enter Try.func8, Try.ntmps8
  go_wp2_with fail
  go_loopw [5] (fun i wr => ∃ (k n : Nat), k ≤ ps.length ∧ i = .int .i64 k ∧ Hid (∀ j, j < k → ps[j]?.getD p0 = qs[j]?.getD p0) ∧ wr = w.drewN n) (fun i _ => ps.length - (intOf i).toNat)
  case atStart => exact ⟨0, 0, Nat.zero_le _, rfl, fun j hj => by omega, rfl⟩
  case round =>
    obtain ⟨k, n, hk, rfl, hall, rfl⟩ := hrel
    by_cases hlt : k < ps.length
    · have hlt2 : k < qs.length := by rw [← HL.out]; exact hlt
      obtain ⟨_, _, ea, _, ra⟩ := H.out
      cases ea
      obtain ⟨b, off, rfl, _, hc⟩ := ra k hlt
      obtain ⟨_, _, ea, _, ra2⟩ := H2.out
      cases ea
      obtain ⟨b2, off2, rfl, _, hc2⟩ := ra2 k hlt2
      have q0 := hc 0 (by omega)
      have q1 := hc 1 (by omega)
      have q2 := hc 2 (by omega)
      have q3 := hc 3 (by omega)
      have r0 := hc2 0 (by omega)
      have r1 := hc2 1 (by omega)
      have r2 := hc2 2 (by omega)
      have r3 := hc2 3 (by omega)
      obtain ⟨p, hp⟩ : ∃ p, ps[k]?.getD p0 = p := ⟨_, rfl⟩
      obtain ⟨q, hq⟩ : ∃ q, qs[k]?.getD p0 = q := ⟨_, rfl⟩
      rw [hp] at q0 q1 q2 q3
      rw [hq] at r0 r1 r2 r3
      obtain ⟨a, j, s, y⟩ := p
      obtain ⟨a2, j2, s2, y2⟩ := q
      simp only [pc, Nat.add_zero] at q0 q1 q2 q3 r0 r1 r2 r3
      have kn : (k : Int) < (ps.length : Int) := by omega
      have kn2 : (k : Int) < (qs.length : Int) := by omega
      have HP := Lib.hid hp
      have HQ := Lib.hid hq
      have hG : ∀ w : World, (eqGuard .neq 46 (.tmp 20) (.tmp 24) (.agg #[.int .i64 a, .int .i64 j, .int .i64 s, .int .i64 y]) (.agg #[.int .i64 a2, .int .i64 j2, .int .i64 s2, .int .i64 y2])).run Try.prog w = .ok () w := fun w => run_eqGuard_agg w _ _ _ _ _ _ (by kernel_rfl)
      have hB := fun w => pers_neq w a j s y a2 j2 s2 y2
      clear hc ra hp hc2 ra2 hq
      by_cases he : (a, j, s, y) = (a2, j2, s2, y2)
      · have HN : Hid (∀ i, i < k + 1 → ps[i]?.getD p0 = qs[i]?.getD p0) := fun i hi => by
          by_cases e : i = k
          · subst e; rw [HP.out, HQ.out]; exact he
          · exact hall.out i (by omega)
        rw [decide_eq_true he] at hB
        clear he
        go_wp2_with fail
        go_quiet (fail)
        go_wp2_with fail
        go_roundw
        case rel => exact ⟨k + 1, _, by omega, by go_num, HN, rfl⟩
        case measure => simp [intOf]; omega
      · have HN : Hid (false = decide (ps = qs)) := (decide_eq_false (fun h => he (by rw [← HP.out, ← HQ.out, h]))).symm
        rw [decide_eq_false he] at hB
        clear he
        go_wp2_with fail
        go_quiet (fail)
        go_wp2_with fail
        go_ret
        exact ⟨ret_b HN.out, below_drewN (below_drewN (Below.refl _ _) n) _⟩
    · have HN : Hid (true = decide (ps = qs)) := (decide_eq_true (ppl_ext HL.out (fun i hi => hall.out i (by omega)))).symm
      go_wp2_with fail
      go_ret
      exact ⟨ret_b HN.out, below_drewN (Below.refl _ _) n⟩

end Go.Proofs.Ytdlpcoafbmhjjaa

namespace Go.Proofs.Ytdlpcoafbmhjjaa
open Go.RowKit

theorem Try.info_pers : (Try.prog.info? 46).map (fun i => (i.zero, i.size, i.bytes)) = some (some (.agg #[.int .i64 0, .int .i64 0, .int .i64 0, .int .i64 0]), 4, 32) := by kernel_rfl
theorem Try.zero_pers (w : World) : (zeroValue 46).run Try.prog w = .ok (.agg #[.int .i64 0, .int .i64 0, .int .i64 0, .int .i64 0]) w := by kernel_rfl

/-- the cells of persons -/
def pcs (p : Pers) : List Value := [.int .i64 p.1, .int .i64 p.2.1, .int .i64 p.2.2.1, .int .i64 p.2.2.2]
def cellsP (ps : List Pers) : List Value := ps.flatMap pcs
theorem cellsP_app (ps qs : List Pers) : cellsP (ps ++ qs) = cellsP ps ++ cellsP qs := List.flatMap_append
theorem cellsP_len : ∀ ps : List Pers, (cellsP ps).length = ps.length * 4
  | [] => rfl
  | p :: ps => by
    have := cellsP_len ps
    unfold cellsP at *
    rw [List.flatMap_cons, List.length_append, this]
    simp [pcs]; omega
theorem cellsP_at : ∀ (ps : List Pers) (i c : Nat), i < ps.length → c < 4 → (cellsP ps)[i * 4 + c]? = some (pc (ps[i]?.getD p0) c)
  | [], i, c, h, _ => by simp at h
  | p :: ps, 0, c, _, hc => by
    unfold cellsP
    rw [List.flatMap_cons, Nat.zero_mul, Nat.zero_add, List.getElem?_append_left (by simp [pcs]; exact hc)]
    have : c = 0 ∨ c = 1 ∨ c = 2 ∨ c = 3 := by omega
    rcases this with rfl | rfl | rfl | rfl <;> rfl
  | p :: ps, i + 1, c, h, hc => by
    have ih := cellsP_at ps i c (by simp at h; exact h) hc
    unfold cellsP at *
    rw [List.flatMap_cons, List.getElem?_append_right (by simp [pcs]; omega)]
    have : (i + 1) * 4 + c - (pcs p).length = i * 4 + c := by simp [pcs]; omega
    rw [this, ih]; rfl
theorem cellsP_get {ps : List Pers} {j : Nat} {u : Value} (h : (cellsP ps)[j]? = some u) : j / 4 < ps.length ∧ u = pc (ps[j / 4]?.getD p0) (j % 4) := by
  have hl := (List.getElem?_eq_some_iff.1 h).1
  rw [cellsP_len] at hl
  have h1 : j / 4 < ps.length := by omega
  refine ⟨h1, ?_⟩
  have := cellsP_at ps (j / 4) (j % 4) h1 (by omega)
  rw [show j / 4 * 4 + j % 4 = j by omega, h] at this
  exact Option.some.inj this
theorem one_cells (ps : List Pers) : ∀ u ∈ cellsP ps, u.oneCell' = true := by
  intro u hu
  obtain ⟨j, hj, rfl⟩ := List.getElem_of_mem hu
  have := (cellsP_get (List.getElem?_eq_getElem hj)).2
  rw [this]
  unfold pc
  split <;> rfl
theorem PplIn.src {w : World} {P : Nat → Prop} {b o : Nat} {ps : List Pers} (h : PplIn w P (some ⟨b, o, none⟩) ps) :
    ∀ j u, (cellsP ps)[j]? = some u → w.cell? ((⟨b, o, none⟩ : Addr).add j) = some u := by
  intro j u hj
  obtain ⟨hi, rfl⟩ := cellsP_get hj
  obtain ⟨b', o', e, _, hc⟩ := h (j / 4) hi
  cases e
  rw [Go.WideShapes.add_plain, ← hc (j % 4) (by omega)]
  congr 2; omega

/-- an own list of persons, not nil -/
def OwnP (w : World) (base : Nat) (v : Value) (ps : List Pers) : Prop := w.ownsRow base 46 4 v ps.length (cellsP ps) ∧ ¬ v = .slice none 0 0
theorem OwnP.form {w : World} {base : Nat} {v : Value} {ps : List Pers} (h : OwnP w base v ps) : ∃ g cap, v = .slice (some ⟨g, 0, none⟩) ps.length cap ∧ base ≤ g ∧ g < w.heap.size ∧ ps.length ≤ cap ∧ cap ≤ maxLen := by
  rcases h.1.2 with ⟨e, _⟩ | ⟨g, cap, cur, rfl, hb, hh, hn, hm, _⟩
  · exact absurd e h.2
  · exact ⟨g, cap, rfl, hb, (Array.getElem?_eq_some_iff.1 hh).1, hn, hm⟩
theorem OwnP.cell {w : World} {base g cap : Nat} {ps : List Pers} (h : OwnP w base (.slice (some ⟨g, 0, none⟩) ps.length cap) ps) {i c : Nat} (hi : i < ps.length) (hc : c < 4) : w.cell? ⟨g, i * 4 + c, none⟩ = some (pc (ps[i]?.getD p0) c) := by
  rw [h.1.cellAt (i * 4 + c) (by omega), cellsP_at ps i c hi hc]
theorem OwnP.ppl {w : World} {base : Nat} {v : Value} {ps : List Pers} (h : OwnP w base v ps) : PplS w (base ≤ ·) v ps := by
  obtain ⟨g, cap, rfl, hb, _, hl, _⟩ := h.form
  refine ⟨_, cap, rfl, hl, fun i hi => ⟨g, 0, rfl, hb, fun c hc => ?_⟩⟩
  rw [Nat.zero_add]; exact h.cell hi hc
theorem OwnP.keptB {w w' : World} {base : Nat} {v : Value} {ps : List Pers} {row : Option Nat} (h : OwnP w base v ps) (hg : w.grownBy w' row) (hr : v.ownBlock ≠ row) : OwnP w' base v ps := ⟨h.1.kept hg (.inr hr), h.2⟩
theorem OwnP.alloc {w : World} {base : Nat} {v : Value} {ps : List Pers} (h : OwnP w base v ps) (o : Obj) : OwnP (w.alloc o) base v ps := ⟨h.1.alloc o, h.2⟩
theorem OwnP.mono {w : World} {base base' : Nat} {v : Value} {ps : List Pers} (h : OwnP w base v ps) (hb : base' ≤ base) : OwnP w base' v ps := ⟨h.1.mono hb, h.2⟩
theorem OwnP.below {w w' : World} {base : Nat} {v : Value} {ps : List Pers} (h : OwnP w base v ps) (hb : Below w.heap.size w w') : OwnP w' base v ps := by
  obtain ⟨g, cap, rfl, _⟩ := h.form
  exact h.keptB (row := none) ⟨hb.os, hb.tape, hb.output, hb.size, fun k hk _ => hb.block k hk⟩ (by simp [Value.ownBlock])
theorem OwnP.empty (w : World) (base : Nat) (hb : base ≤ w.heap.size) : OwnP (w.alloc (.cells #[] 46)) base (.slice (some ⟨w.heap.size, 0, none⟩) 0 0) [] :=
  ⟨World.ownsRow_made w #[] 0 hb (Nat.zero_le _) rfl, by simp⟩
theorem OwnP.join {w w' : World} {base : Nat} {v v' : Value} {ps qs : List Pers} {m : Nat} (hm : m = qs.length) (_ : OwnP w base v ps)
    (ho : w'.ownsRow base 46 4 v' (ps.length + m) (cellsP ps ++ cellsP qs)) (hn : ¬ v' = .slice none 0 0) : OwnP w' base v' (ps ++ qs) :=
  ⟨by subst hm; rw [List.length_append, cellsP_app]; exact ho, hn⟩

set_option maxHeartbeats 400000 in
theorem iClonePpl (w : World) (P : Nat → Prop) (b o n ci : Nat) (ps : List Pers) (h : PplS w P (.slice (some ⟨b, o, none⟩) n ci) ps) (hr : ps.length ≤ 1000) :
    Calls Try.prog 21 #[.slice (some ⟨b, o, none⟩) n ci] w fun e w' => ∃ v, e = .returned v ∧ OwnP w' w.heap.size v ps ∧ Below w.heap.size w w' := by
  obtain ⟨i0, hi0, hz0, hz1, hz2⟩ := info_parts Try.info_pers
  obtain ⟨_, _, e, _, hin⟩ := h.below ((Below.refl _ _).alloc (Nat.le_refl _) (.cells #[] 46))
  cases e
  have HI := Lib.hid hin
  clear h hin
  have he : ∀ w : World, (binOp .eql 23 (.slice (some ⟨b, o, none⟩) ps.length ci) (.slice none 0 0)).run Try.prog w = .ok (.bool false) w := fun _ => rfl
  go_enter Try.func21, Try.ntmps21
  go_wp2_with (at_builtin; refine wpList_append_own_at _ rfl _ _ 23 rfl w.heap.size 46 i0 (.agg #[.int .i64 0, .int .i64 0, .int .i64 0, .int .i64 0]) 4 32 Try.underlying23 hi0 hz0 hz1 hz2 rfl (by decide) _ _ _ rfl (OwnP.empty w w.heap.size (Nat.le_refl _)).1 ⟨b, o, none⟩ ps.length ci (cellsP ps) rfl (cellsP_len ps) HI.out.src (one_cells _) ?c3 ?c4 ?c5 ?_)
  case c3 => unfold maxLen; simp; omega
  case c4 => simp; omega
  case c5 => simp
  intro v1 w2 hown hgrow hnil hat
  have hv1 : OwnP w2 w.heap.size v1 ps := ⟨by simpa [cellsP] using hown, by simpa using hnil⟩
  have g2 : w.grownBy w2 (some w.heap.size) := grow_trans (World.grownBy_alloc _ _ _) hgrow
  have B2 := Lib.hid ((Below.refl w.heap.size w).grown g2 (Nat.le_refl _) (fun q e => by cases e; exact Nat.le_refl _))
  clear hown hgrow hnil hat g2
  go_wp2_with fail
  go_ret
  exact ⟨_, rfl, hv1, B2.out⟩

end Go.Proofs.Ytdlpcoafbmhjjaa

namespace Go.Proofs.Ytdlpcoafbmhjjaa
open Go.RowKit

theorem run_clear_one (w : World) (ty : TypeId) (b o c : Nat) (hc : ∀ j, j < 4 → (w.cell? ⟨b, o + j, none⟩).isSome = true) (hf : ∀ j, j < 4 → w.frozen? ⟨b, o + j, none⟩ = false) :
    (Builtin.clear_ #[23] ty #[.slice (some ⟨b, o, none⟩) 1 c]).run Try.prog w = .ok (.tuple #[]) (w.setCells b o [.int .i64 0, .int .i64 0, .int .i64 0, .int .i64 0]) := by
  have hst := run_storeCells_cells (P := Try.prog) b o [.int .i64 0, .int .i64 0, .int .i64 0, .int .i64 0] 0 w (by simpa using hc) (by simpa using hf) (by intro v hv; simp at hv; subst hv; rfl)
  simp only [Nat.add_zero] at hst
  have hzc : (Builtin.zeroCells (Value.agg #[.int .i64 0, .int .i64 0, .int .i64 0, .int .i64 0]).cells 1).toList = [.int .i64 0, .int .i64 0, .int .i64 0, .int .i64 0] := by
    simp [Builtin.zeroCells, Value.cells]
    rfl
  simp [Builtin.clear_, run_underlying Try.underlying23, hzc, hst]

set_option maxRecDepth 100000 in
set_option maxHeartbeats 2000000 in
theorem iDeletePpl (w : World) (base g n cap k r : Nat) (ps : List Pers) (h : OwnP w base (.slice (some ⟨g, 0, none⟩) n cap) ps) (hn : ps.length = k + 1 + r) (hl : ps.length ≤ 1000) :
    Calls Try.prog 20 #[.slice (some ⟨g, 0, none⟩) n cap, .int .i64 (k : Int), .int .i64 ((k : Int) + 1)] w fun e w' => e = .returned (.slice (some ⟨g, 0, none⟩) (k + r) cap) ∧ PplS w' (base ≤ ·) (.slice (some ⟨g, 0, none⟩) (k + r) cap) (ps.eraseIdx k) ∧ Below base w w' := by
  obtain ⟨i0, hi0, hz0, hz1, hz2⟩ := info_parts Try.info_pers
  obtain ⟨g', cap', e, hgb, hgs, hc1, hc2⟩ := h.form
  cases e
  rw [hn] at hc1
  have hcell : ∀ i c, i < ps.length → c < 4 → w.cell? ⟨g, i * 4 + c, none⟩ = some (pc (ps[i]?.getD p0) c) := fun i c hi hc => h.cell hi hc
  have hfro : ∀ j, w.frozen? ⟨g, j, none⟩ = false := fun j => h.1.frozenAt j
  obtain ⟨news, hnews⟩ : ∃ news, news = cellsP (ps.drop (k + 1)) := ⟨_, rfl⟩
  have hlen : news.length = r * 4 := by rw [hnews, cellsP_len, List.length_drop, hn]; omega
  obtain ⟨A, hA, hsrc⟩ : ∃ A : Addr, (if cap = k + 1 then some (⟨g, 0, none⟩ : Addr) else some ⟨g, (k + 1) * 4, none⟩) = some A ∧ Hid (∀ t u, news[t]? = some u → w.drew.cell? (A.add t) = some u) := by
    by_cases h : cap = k + 1
    · refine ⟨⟨g, 0, none⟩, by simp [h], fun t u hu => ?_⟩
      have h0 : news.length = 0 := by rw [hlen]; omega
      rw [List.length_eq_zero_iff.1 h0] at hu
      simp at hu
    · refine ⟨⟨g, (k + 1) * 4, none⟩, by simp [h], fun t u hu => ?_⟩
      rw [hnews] at hu
      obtain ⟨h1, rfl⟩ := cellsP_get hu
      rw [List.length_drop] at h1
      rw [List.getElem?_drop, Go.WideShapes.add_plain, ← hcell (k + 1 + t / 4) (t % 4) (by omega) (by omega)]
      show w.cell? _ = w.cell? _
      congr 2; omega
  have s1 : Hid (news.length = r * 4) := hlen
  have s2 : Hid (∀ u ∈ news, u.oneCell' = true) := by rw [hnews]; exact one_cells _
  have s3 : Hid (∀ t, t < news.length → (w.drew.cell? ⟨g, 0 + k * 4 + t, none⟩).isSome = true ∧ w.drew.frozen? ⟨g, 0 + k * 4 + t, none⟩ = false) := by
    intro t ht
    rw [hlen] at ht
    refine ⟨?_, hfro _⟩
    show (w.cell? _).isSome = true
    rw [show 0 + k * 4 + t = (k + t / 4) * 4 + t % 4 by omega, hcell (k + t / 4) (t % 4) (by omega) (by omega)]; rfl
  obtain ⟨W1, hW1⟩ : ∃ W1, W1 = w.drew.setCells g (0 + k * 4) news := ⟨_, rfl⟩
  have hW1c : ∀ i c, i < k + r → c < 4 → W1.cell? ⟨g, i * 4 + c, none⟩ = some (pc ((ps.eraseIdx k)[i]?.getD p0) c) := by
    intro i c hi hc
    rw [List.getElem?_eraseIdx]
    by_cases hik : i < k
    · rw [if_pos hik, hW1, World.cell?_setCells_out]
      · exact hcell i c (by omega) hc
      · intro _ _; left; simp; omega
    · rw [if_neg hik, hW1]
      have hjn : i * 4 + c - k * 4 < news.length := by rw [hlen]; omega
      have := World.cell?_setCells_in g news (0 + k * 4) w.drew (fun j hj => (s3.out j hj).1) (i * 4 + c - k * 4) hjn
      rw [show 0 + k * 4 + (i * 4 + c - k * 4) = i * 4 + c by omega] at this
      rw [this]
      have e := cellsP_get (ps := ps.drop (k + 1)) (j := i * 4 + c - k * 4) (u := news[i * 4 + c - k * 4]) (by rw [← hnews]; exact List.getElem?_eq_getElem hjn)
      rw [e.2, List.getElem?_drop, show k + 1 + (i * 4 + c - k * 4) / 4 = i + 1 by omega, show (i * 4 + c - k * 4) % 4 = c by omega]
  have hW1f : ∀ j, W1.frozen? ⟨g, j, none⟩ = false := fun j => by rw [hW1, World.frozen?_setCells]; exact hfro j
  have hW1l : ∀ j, j < 4 → (W1.cell? ⟨g, (k + r) * 4 + j, none⟩).isSome = true := fun j hj => by
    rw [hW1, World.cell?_setCells_out]
    · have := hcell (k + r) j (by omega) hj
      show (w.cell? _).isSome = true
      rw [this]; rfl
    · intro _ _; right; simp [hlen]; omega
  have hcl : ∀ ty, (Builtin.clear_ #[23] ty #[.slice (some ⟨g, (k + r) * 4, none⟩) (k + 1 + r - (k + r)) (cap - (k + r))]).run Try.prog W1 = .ok (.tuple #[]) (W1.setCells g ((k + r) * 4) [.int .i64 0, .int .i64 0, .int .i64 0, .int .i64 0]) := fun ty => by
    rw [show k + 1 + r - (k + r) = 1 by omega]
    exact run_clear_one W1 ty g _ _ hW1l (fun j _ => hW1f _)
  have hW : Hid (W1 = w.drew.setCells g (0 + k * 4) news) := hW1
  have HFIN : Hid (PplS (W1.setCells g ((k + r) * 4) [.int .i64 0, .int .i64 0, .int .i64 0, .int .i64 0]) (base ≤ ·) (.slice (some ⟨g, 0, none⟩) (k + r) cap) (ps.eraseIdx k)) := by
    have hel : (ps.eraseIdx k).length = k + r := by rw [List.length_eraseIdx, if_pos (by omega)]; omega
    refine ⟨_, cap, by rw [hel], by omega, fun i hi => ⟨g, 0, rfl, hgb, fun c hc => ?_⟩⟩
    rw [World.cell?_setCells_out, Nat.zero_add]
    · exact hW1c i c (by omega) hc
    · intro _ _; left; simp; omega
  have HBEL : Hid (Below base w (W1.setCells g ((k + r) * 4) [.int .i64 0, .int .i64 0, .int .i64 0, .int .i64 0])) := by
    rw [hW1]
    exact Go.Lib.below_setCells g hgb _ _ (Go.Lib.below_setCells g hgb _ _ (Below.refl _ _).drew)
  have hlk : k ≤ cap := by omega
  have hlk1 : k + 1 ≤ cap := by omega
  have hkne : ¬ cap = k + r := by omega
  have hki : (k : Int) ≤ (cap : Int) := by omega
  have q1 : (0 : Int) ≤ (k : Int) + 1 := by omega
  have q2 : (k : Int) + 1 ≤ (k : Int) + 1 + (r : Int) := by omega
  rw [hn]
  clear hW1 hW1c hW1f hW1l hnews hlen hcell hfro h hn
  go_enter Try.func20, Try.ntmps20
  go_wp2_with fail
  go_region_law (refine step_append_room rfl (.tmp 22) (.tmp 25) 23 rfl 46 i0 4 Try.underlying23 hi0 hz1 g 0 k cap (by simp [Act.eval, Act.put]) A r (cap - (k + 1)) news (by simp [Act.eval, Act.put]) s1.out hsrc.out s2.out (by omega) s3.out ?_; rw [← hW.out])
  go_wp2_with fail
  go_ret
  exact ⟨rfl, HFIN.out, HBEL.out⟩

/-- what PeopleWithout leaves -/
def WithoutP (w : World) (ps : List Pers) (k : Int) (e : Ending) (w' : World) : Prop :=
  Below w.heap.size w w' ∧ ((¬ (pplOk ps ∧ 0 ≤ k ∧ k < ps.length) ∧ e = .returned (.tuple #[.slice none 0 0, .bool false])) ∨
    (pplOk ps ∧ ∃ n : Nat, k = (n : Int) ∧ n < ps.length ∧ ∃ v, e = .returned (.tuple #[v, .bool true]) ∧ PplS w' (w.heap.size ≤ ·) v (ps.eraseIdx n)))

set_option maxRecDepth 100000 in
set_option maxHeartbeats 2000000 in
theorem iPeopleWithout (w : World) (P : Nat → Prop) (v : Value) (ps : List Pers) (k : Int) (h : PplS w P v ps) (hl : ps.length ≤ 1000) :
    Calls Try.prog 6 #[v, .int .i64 k] w (WithoutP w ps k) := by
  have H := Lib.hid h
  obtain ⟨a, cap, rfl, _, _⟩ := h
  by_cases hok : pplOk ps
  rotate_left
  · have D : Hid (decide (pplOk ps) = false) := decide_eq_false hok
    have HN : Hid (¬ (pplOk ps ∧ 0 ≤ k ∧ k < ps.length)) := fun h => hok h.1
    clear hok
    go_enter Try.func6, Try.ntmps6
    go_wp2_with fail
    with_reducible refine (iPeopleValid _ _ _ ps H.out hl).mono ?_
    rintro e w1 ⟨rfl, b1⟩
    rw [D.out]
    go_wp2_with fail
    go_ret2
    exact ⟨b1, .inl ⟨HN.out, rfl⟩⟩
  have D : Hid (decide (pplOk ps) = true) := decide_eq_true hok
  have HOK := Lib.hid hok
  by_cases h0 : k < 0
  · have d0 : decide (k < 0) = true := by simpa using h0
    have HN : Hid (¬ (pplOk ps ∧ 0 ≤ k ∧ k < ps.length)) := fun h => by omega
    clear hok h0
    go_enter Try.func6, Try.ntmps6
    go_wp2_with fail
    with_reducible refine (iPeopleValid _ _ _ ps H.out hl).mono ?_
    rintro e w1 ⟨rfl, b1⟩
    rw [D.out]
    go_wp2_with fail
    go_ret2
    exact ⟨b1, .inl ⟨HN.out, rfl⟩⟩
  have d0 : decide (k < 0) = false := by simpa using h0
  by_cases h1 : (ps.length : Int) ≤ k
  · have d1 : decide ((ps.length : Int) ≤ k) = true := by simpa using h1
    have HN : Hid (¬ (pplOk ps ∧ 0 ≤ k ∧ k < ps.length)) := fun h => by omega
    clear hok h0 h1
    go_enter Try.func6, Try.ntmps6
    go_wp2_with fail
    with_reducible refine (iPeopleValid _ _ _ ps H.out hl).mono ?_
    rintro e w1 ⟨rfl, b1⟩
    rw [D.out]
    go_wp2_with fail
    go_ret2
    exact ⟨b1, .inl ⟨HN.out, rfl⟩⟩
  have d1 : decide ((ps.length : Int) ≤ k) = false := by simp; omega
  obtain ⟨n, rfl⟩ : ∃ n : Nat, k = (n : Int) := ⟨k.toNat, by omega⟩
  have hnl : n < ps.length := by omega
  obtain ⟨r, hr⟩ : ∃ r, ps.length = n + 1 + r := ⟨ps.length - (n + 1), by omega⟩
  obtain ⟨_, _, ea, _, ra⟩ := H.out
  cases ea
  obtain ⟨b, o, rfl, _, _⟩ := ra n hnl
  have HNL := Lib.hid hnl
  have HR := Lib.hid hr
  have d2 : decide (ps.length ≤ n) = false := by simp; omega
  have hn3 : n ≤ 1000 := by omega
  have hw1 : IntKind.i64.wrap ((n : Int) + 1) = (n : Int) + 1 := by rw [IntKind.wrap_i64]; omega
  clear hok h0 h1 ra hnl hr
  go_enter Try.func6, Try.ntmps6
  go_wp2_with fail
  with_reducible refine (iPeopleValid _ _ _ ps H.out hl).mono ?_
  rintro e w1 ⟨rfl, b1⟩
  have H1 := Lib.hid (H.out.below b1)
  have B1 := Lib.hid b1
  rw [D.out]
  clear b1
  go_wp2_with fail
  with_reducible refine (iClonePpl _ _ _ _ _ _ ps H1.out hl).mono ?_
  rintro e w2 ⟨vc, rfl, oc, b2⟩
  obtain ⟨g, cc, rfl, hgb, _, _, _⟩ := oc.form
  have OC := Lib.hid (oc.mono (base' := w.heap.size) B1.out.size)
  have B2 := Lib.hid (B1.out.trans (b2.mono B1.out.size))
  clear oc b2
  go_wp2_with fail
  with_reducible refine (iDeletePpl _ _ _ _ _ n r ps OC.out HR.out hl).mono ?_
  rintro e w3 ⟨rfl, hp, b3⟩
  have HP := Lib.hid hp
  have B3 := Lib.hid (B2.out.trans b3)
  clear hp b3
  go_wp2_with fail
  go_ret2
  exact ⟨B3.out, .inr ⟨HOK.out, n, rfl, HNL.out, _, rfl, HP.out⟩⟩

end Go.Proofs.Ytdlpcoafbmhjjaa

namespace Go.Proofs.Ytdlpcoafbmhjjaa
open Go.RowKit

theorem PplS.grown {w w' : World} {P : Nat → Prop} {v : Value} {ps : List Pers} {row : Option Nat} (h : PplS w P v ps) (hg : w.grownBy w' row) (hr : ∀ k, row = some k → ¬ P k) : PplS w' P v ps := by
  obtain ⟨a, cap, rfl, hl, hin⟩ := h
  refine ⟨a, cap, rfl, hl, fun i hi => ?_⟩
  obtain ⟨b, off, rfl, hP, hc⟩ := hin i hi
  refine ⟨b, off, rfl, hP, fun c hc4 => hg.cell (hc c hc4) (fun e => hr b e.symm hP)⟩

/-- what PeopleWithout of the reference leaves -/
def WithoutS (w : World) (ps : List Pers) (k : Int) (e : Ending) (w' : World) : Prop :=
  Below w.heap.size w w' ∧ ((¬ (pplOk ps ∧ 0 ≤ k ∧ k < ps.length) ∧ ∃ v, e = .returned (.tuple #[v, .bool false]) ∧ PplS w' (w.heap.size ≤ ·) v []) ∨
    (pplOk ps ∧ ∃ n : Nat, k = (n : Int) ∧ n < ps.length ∧ ∃ v, e = .returned (.tuple #[v, .bool true]) ∧ PplS w' (w.heap.size ≤ ·) v (ps.eraseIdx n)))

theorem erase_eq {ps : List Pers} {n : Nat} : ps.eraseIdx n = ps.take n ++ ps.drop (n + 1) := List.eraseIdx_eq_take_drop_succ _ _

set_option maxRecDepth 100000 in
set_option maxHeartbeats 4000000 in
theorem sPeopleWithout (w : World) (P : Nat → Prop) (v : Value) (ps : List Pers) (k : Int) (h : PplS w P v ps) (hl : ps.length ≤ 1000) :
    Calls Try.prog 7 #[v, .int .i64 k] w (WithoutS w ps k) := by
  obtain ⟨i0, hi0, hz0, hz1, hz2⟩ := info_parts Try.info_pers
  have H := Lib.hid (h.mono (Q := (· < w.heap.size)) (fun _ _ h => h))
  obtain ⟨a, cap, rfl, _, _⟩ := h
  have bad : Hid (∀ w1, Below w.heap.size w w1 → ¬ (pplOk ps ∧ 0 ≤ k ∧ k < ps.length) → WithoutS w ps k (.returned (.tuple #[.slice (some ⟨w1.heap.size, 0, none⟩) 0 0, .bool false])) (w1.alloc (.cells #[] 46))) := fun w1 hb hn =>
    ⟨hb.alloc hb.size _, .inl ⟨hn, _, rfl, ((OwnP.empty w1 w1.heap.size (Nat.le_refl _)).mono hb.size).ppl⟩⟩
  by_cases hok : pplOk ps
  rotate_left
  · have D : Hid (decide (pplOk ps) = false) := decide_eq_false hok
    have HN : Hid (¬ (pplOk ps ∧ 0 ≤ k ∧ k < ps.length)) := fun h => hok h.1
    clear hok
    go_enter Try.func7, Try.ntmps7
    go_wp2_with fail
    with_reducible refine (sPeopleValid _ _ _ ps H.out hl).mono ?_
    rintro e w1 ⟨rfl, b1⟩
    rw [D.out]
    go_wp2_with fail
    go_ret2
    exact bad.out w1 b1 HN.out
  have D : Hid (decide (pplOk ps) = true) := decide_eq_true hok
  have HOK := Lib.hid hok
  have hw0 : IntKind.i64.wrap ((ps.length : Int) - 1) = (ps.length : Int) - 1 := by rw [IntKind.wrap_i64]; omega
  by_cases h0 : k < 0 ∨ (ps.length : Int) - 1 < k
  · have HN : Hid (¬ (pplOk ps ∧ 0 ≤ k ∧ k < ps.length)) := fun h => by omega
    have HK := Lib.hid h0
    clear hok h0
    go_enter Try.func7, Try.ntmps7
    go_wp2_with fail
    with_reducible refine (sPeopleValid _ _ _ ps H.out hl).mono ?_
    rintro e w1 ⟨rfl, b1⟩
    rw [D.out]
    go_wp2_with fail
    with_reducible refine (sIn_f k 0 ((ps.length : Int) - 1) _ HK.out).mono ?_
    rintro e w' ⟨rfl, rfl⟩
    go_wp2_with fail
    go_ret2
    exact bad.out w1 b1 HN.out
  obtain ⟨n, rfl⟩ : ∃ n : Nat, k = (n : Int) := ⟨k.toNat, by omega⟩
  have hnl : n < ps.length := by omega
  obtain ⟨r, hr⟩ : ∃ r, ps.length = n + 1 + r := ⟨ps.length - (n + 1), by omega⟩
  have hkr : (n : Int) ≤ (ps.length : Int) - 1 := by omega
  obtain ⟨_, _, ea, hcp, ra⟩ := H.out
  cases ea
  obtain ⟨b, o, rfl, hbw, _⟩ := ra n hnl
  have HNL := Lib.hid hnl
  have HKR := Lib.hid hkr
  have HR := Lib.hid hr
  have hn3 : n ≤ 1000 := by omega
  have hr3 : r ≤ 1000 := by omega
  have hcp2 : n + 1 + r ≤ cap := by omega
  clear hok h0 ra hnl hr hkr bad
  go_enter Try.func7, Try.ntmps7
  go_wp2_with fail
  with_reducible refine (sPeopleValid _ _ _ ps H.out hl).mono ?_
  rintro e w1 ⟨rfl, b1⟩
  have H1 := Lib.hid (H.out.below b1)
  have B1 := Lib.hid b1
  have hs1 := b1.size
  rw [D.out]
  clear b1
  go_wp2_with fail
  with_reducible refine (sIn_t (n : Int) 0 ((ps.length : Int) - 1) _ (by omega) HKR.out).mono ?_
  rintro e w' ⟨rfl, rfl⟩
  have hin : PplIn w1 (· < w.heap.size) (some ⟨b, o, none⟩) ps := by
    obtain ⟨_, _, ea, _, ra⟩ := H1.out
    cases ea; exact ra
  rw [HR.out] at hw0 hcp hl ⊢
  -- the two parts
  have src1 : Hid (∀ w2 row, (w1.alloc (.cells #[] 46)).drew.grownBy w2 row → (∀ q, row = some q → w.heap.size ≤ q) → ∀ t u, (cellsP (ps.take n))[t]? = some u → w2.cell? ((⟨b, o, none⟩ : Addr).add t) = some u) := by
    intro w2 row hg hr t u hu
    obtain ⟨h1, rfl⟩ := cellsP_get hu
    rw [List.length_take] at h1
    obtain ⟨b', o', e, _, hc⟩ := hin (t / 4) (by omega)
    cases e
    rw [List.getElem?_take, if_pos (by omega), Go.WideShapes.add_plain]
    have h2 := hc (t % 4) (by omega)
    have h3 : (w1.alloc (.cells #[] 46)).drew.cell? ⟨b, o + t / 4 * 4 + t % 4, none⟩ = some (pc (ps[t / 4]?.getD p0) (t % 4)) := (World.grownBy_alloc w1 (.cells #[] 46) none).cell h2 (by simp)
    have h4 := hg.cell h3 (fun e => by have := hr b e.symm; omega)
    rw [← h4]; congr 2; omega
  obtain ⟨A, hA, src2⟩ : ∃ A : Addr, (if cap = n + 1 then some (⟨b, o, none⟩ : Addr) else some ⟨b, o + (n + 1) * 4, none⟩) = some A ∧ Hid (∀ w2 row, (w1.alloc (.cells #[] 46)).drew.grownBy w2 row → (∀ q, row = some q → w.heap.size ≤ q) → ∀ t u, (cellsP (ps.drop (n + 1)))[t]? = some u → w2.cell? (A.add t) = some u) := by
    by_cases h : cap = n + 1
    · refine ⟨⟨b, o, none⟩, by simp [h], fun w2 row hg hr t u hu => ?_⟩
      obtain ⟨h1, rfl⟩ := cellsP_get hu
      rw [List.length_drop] at h1
      omega
    · refine ⟨⟨b, o + (n + 1) * 4, none⟩, by simp [h], fun w2 row hg hr t u hu => ?_⟩
      obtain ⟨h1, rfl⟩ := cellsP_get hu
      rw [List.length_drop] at h1
      obtain ⟨b', o', e, _, hc⟩ := hin (n + 1 + t / 4) (by omega)
      cases e
      rw [List.getElem?_drop, Go.WideShapes.add_plain]
      have h2 := hc (t % 4) (by omega)
      have h3 : (w1.alloc (.cells #[] 46)).drew.cell? ⟨b, o + (n + 1 + t / 4) * 4 + t % 4, none⟩ = some (pc (ps[n + 1 + t / 4]?.getD p0) (t % 4)) := (World.grownBy_alloc w1 (.cells #[] 46) none).cell h2 (by simp)
      have h4 := hg.cell h3 (fun e => by have := hr b e.symm; omega)
      rw [← h4]; congr 2; omega
  have l1 : Hid ((cellsP (ps.take n)).length = n * 4) := by unfold Hid; rw [cellsP_len, List.length_take, HR.out]; omega
  have l2 : Hid ((cellsP (ps.drop (n + 1))).length = r * 4) := by unfold Hid; rw [cellsP_len, List.length_drop, HR.out]; omega
  have HE : Hid ((w1.alloc (.cells #[] 46)).drew.ownsRow w1.heap.size 46 4 (.slice (some ⟨w1.heap.size, 0, none⟩) 0 0) 0 []) := (OwnP.empty w1 w1.heap.size (Nat.le_refl _)).1
  have HB0 : Hid (Below w.heap.size w (w1.alloc (.cells #[] 46)).drew) := (B1.out.alloc B1.out.size _).drew
  have HEQ : Hid (cellsP (ps.take n) ++ cellsP (ps.drop (n + 1)) = cellsP (ps.eraseIdx n)) := by unfold Hid; rw [erase_eq, cellsP_app]
  have HEL : Hid ((ps.eraseIdx n).length = n + r) := by unfold Hid; rw [List.length_eraseIdx, if_pos HNL.out, HR.out]; omega
  have q1 : (0 : Int) ≤ (n : Int) + 1 := by omega
  have q2 : (n : Int) + 1 ≤ (n : Int) + 1 + (r : Int) := by omega
  have q3 : (n : Int) ≤ (cap : Int) := by omega
  have q4 : (n : Int) + 1 + (r : Int) ≤ (cap : Int) := by omega
  have q5 : (0 : Int) ≤ (n : Int) := by omega
  have hw1 : IntKind.i64.wrap ((n : Int) + 1) = (n : Int) + 1 := by rw [IntKind.wrap_i64]; omega
  clear hin hcp hw0 hbw
  go_wp2_with fail
  go_region_law (first
    | (refine step_append_own _ rfl (.tmp 18) (.tmp 21) 23 rfl w1.heap.size 46 i0 (.agg #[.int .i64 0, .int .i64 0, .int .i64 0, .int .i64 0]) 4 32 Try.underlying23 hi0 hz0 hz1 hz2 rfl (by decide) (.slice (some ⟨w1.heap.size, 0, none⟩) 0 0) 0 [] (by simp [Act.eval]) HE.out ⟨b, o, none⟩ n cap (cellsP (ps.take n)) (by simp [Act.eval]) l1.out (src1.out _ none (grow_refl _ _) (by simp)) (one_cells _) (by unfold maxLen; omega) (by omega) (by simp) ?_; intro v2 w2 hown2 hgrow2 hnil2; have O2 : Hid (w2.ownsRow w1.heap.size 46 4 v2 n (cellsP (ps.take n))) := (by unfold Hid; simpa using hown2); have N2 : Hid (¬ v2 = .slice none 0 0) := (fun e => by have := (hnil2.1 e).1; simp at this); have G2 := Lib.hid hgrow2; have B2 := Lib.hid (HB0.out.grown hgrow2 HB0.out.size (fun j e => by cases e; exact hs1)); have S2 : Hid (w1.heap.size ≤ w2.heap.size) := (by have := hgrow2.size; unfold Hid; simp at this; omega); clear hown2 hgrow2 hnil2)
    | (refine step_append_own _ rfl (.tmp 22) (.tmp 26) 23 rfl w1.heap.size 46 i0 (.agg #[.int .i64 0, .int .i64 0, .int .i64 0, .int .i64 0]) 4 32 Try.underlying23 hi0 hz0 hz1 hz2 rfl (by decide) v2 n (cellsP (ps.take n)) (by simp [Act.eval]) O2.out A r (cap - (n + 1)) (cellsP (ps.drop (n + 1))) (by simp [Act.eval]) l2.out (src2.out _ _ G2.out (fun q e => by cases e; exact hs1)) (one_cells _) (by unfold maxLen; omega) (by omega) S2.out ?_; intro v3 w3 hown3 hgrow3 hnil3; have O3 : Hid (OwnP w3 w1.heap.size v3 (ps.eraseIdx n)) := ⟨by rw [HEL.out, ← HEQ.out]; exact hown3, fun e => N2.out (hnil3.1 e).1⟩; have B3 := Lib.hid (B2.out.grown hgrow3 B2.out.size (fun j e => Nat.le_trans hs1 ((O2.out.lt j e).1))); obtain ⟨g3, c3, rfl, _⟩ := O3.out.form; clear hown3 hgrow3 hnil3))
  all_goals
    go_wp2_with fail
    go_ret2
    exact ⟨B3.out, .inr ⟨HOK.out, n, rfl, HNL.out, _, rfl, (O3.out.mono hs1).ppl⟩⟩

end Go.Proofs.Ytdlpcoafbmhjjaa

namespace Go.Proofs.Ytdlpcoafbmhjjaa
open Go.RowKit

/-- a person is drawn -/
def DrewPers (w : World) (B : Nat) (a : Option Addr) (len cap : Nat) (zs : List Int) (p : Int) (e : Ending) (w' : World) : Prop :=
  ∃ x j s y, e = .returned (.agg #[.int .i64 x, .int .i64 j, .int .i64 s, .int .i64 y]) ∧ Rd w' B a len cap zs (p + 5) ∧ w.grownBy w' (some B)

set_option maxHeartbeats 1000000 in
theorem sPerson (w : World) (B : Nat) (a : Option Addr) (len cap : Nat) (zs : List Int) (p : Int) (h : Rd w B a len cap zs p) (hp : p < 990000) :
    Calls Try.prog 38 #[.pointer (some ⟨B, 0, none⟩)] w (DrewPers w B a len cap zs p) := by
  have hB := h.lt
  go_enter Try.func38, Try.ntmps38
  go_wp2_with fail
  have hw0 : w.heap.size ≠ B := by omega
  have R0 := h.alloc (.cells #[.int .i64 0, .int .i64 0, .int .i64 0, .int .i64 0] 46)
  have G0 : w.grownBy (w.alloc (.cells #[.int .i64 0, .int .i64 0, .int .i64 0, .int .i64 0] 46)) (some B) := World.grownBy_alloc _ _ _
  have c0 : ∀ i, i < 4 → (w.alloc (.cells #[.int .i64 0, .int .i64 0, .int .i64 0, .int .i64 0] 46)).cell? ⟨w.heap.size, i, none⟩ = some (.int .i64 0) := fun i hi => by
    rw [cell_new]
    have : i = 0 ∨ i = 1 ∨ i = 2 ∨ i = 3 := by omega
    rcases this with rfl | rfl | rfl | rfl <;> rfl
  have f0 : ∀ i, (w.alloc (.cells #[.int .i64 0, .int .i64 0, .int .i64 0, .int .i64 0] 46)).frozen? ⟨w.heap.size, i, none⟩ = false := fun i => frozen_new _ _ _ _
  have hsz : (w.alloc (.cells #[.int .i64 0, .int .i64 0, .int .i64 0, .int .i64 0] 46)).heap.size = w.heap.size + 1 := by simp
  generalize w.alloc (.cells #[.int .i64 0, .int .i64 0, .int .i64 0, .int .i64 0] 46) = wa at *
  have C0 := Lib.hid c0
  have F0 := Lib.hid f0
  have HSZ := Lib.hid hsz
  clear c0 f0 hsz
  refine (pick_use _ B a len cap zs p 4 R0 (by omega)).mono ?_
  rintro e w1 ⟨m1, rfl, _, r1, g1⟩
  go_wp2_with fail
  refine (pick_use _ B a len cap zs _ 3 r1 (by omega)).mono ?_
  rintro e w2 ⟨m2, rfl, _, r2, g2⟩
  go_wp2_with fail
  refine (pick_use _ B a len cap zs _ 2 r2 (by omega)).mono ?_
  rintro e w3 ⟨m3, rfl, _, r3, g3⟩
  go_wp2_with fail
  refine (pick_use _ B a len cap zs _ 10 r3 (by omega)).mono ?_
  rintro e w4 ⟨m4, rfl, _, r4, g4⟩
  go_wp2_with fail
  refine (pick_use _ B a len cap zs _ 100 r4 (by omega)).mono ?_
  rintro e w5 ⟨m5, rfl, _, r5, g5⟩
  have G5 : wa.grownBy w5 (some B) := grow_trans (grow_trans (grow_trans (grow_trans g1 g2) g3) g4) g5
  have C5 : ∀ i, i < 4 → w5.cell? ⟨w.heap.size, i, none⟩ = some (.int .i64 0) := fun i hi => G5.cell (C0.out i hi) (by simp; omega)
  have F5 : ∀ i, w5.frozen? ⟨w.heap.size, i, none⟩ = false := fun i => (World.frozen?_of_block (a := ⟨w.heap.size, i, none⟩) (G5.block w.heap.size (by have := HSZ.out; omega) (by simp; omega))).trans (F0.out i)
  have q0 := C5 0 (by omega)
  have q1 := C5 1 (by omega)
  have q2 := C5 2 (by omega)
  have q3 := C5 3 (by omega)
  have t0 := F5 0
  have t1 := F5 1
  have t2 := F5 2
  have t3 := F5 3
  have G6 := Lib.hid (grow_trans G0 G5)
  have R5 := Lib.hid r5
  clear g1 g2 g3 g4 g5 r1 r2 r3 r4 r5 C5 F5 G5 G0 R0
  go_wp2_with fail
  have HG : w5.grownBy ((((w5.setCell ⟨w.heap.size, 0, none⟩ (.int .i64 (m1 : Int))).setCell ⟨w.heap.size, 1, none⟩ (.int .i64 (m2 : Int))).setCell ⟨w.heap.size, 2, none⟩ (.int .i64 (m3 : Int))).setCell ⟨w.heap.size, 3, none⟩ (.int .i64 ((m4 : Int) * 100 + (m5 : Int)))) (some w.heap.size) :=
    grow_set (grow_set (grow_set (grow_set (grow_refl _ _) _ _) _ _) _ _) _ _
  refine bodyPost_ret (v := .agg #[.int .i64 (m1 : Int), .int .i64 (m2 : Int), .int .i64 (m3 : Int), .int .i64 ((m4 : Int) * 100 + (m5 : Int))]) ?_ rfl ⟨_, _, _, _, rfl, ?_, grow_beside G6.out HG (Nat.le_refl _)⟩
  · simp [results, Try.f38, go_sem, q0, q1, q2, q3]
  · have := R5.out.kept HG (fun k e => by cases e; omega)
    rw [show p + 5 = p + 1 + 1 + 1 + 1 + 1 by omega]
    exact this

end Go.Proofs.Ytdlpcoafbmhjjaa

namespace Go.Proofs.Ytdlpcoafbmhjjaa
open Go.RowKit

theorem cell_four_new (w : World) (x j s y : Value) (t : TypeId) : ∀ i u, [x, j, s, y][i]? = some u → (w.alloc (.cells #[x, j, s, y] t)).cell? ((⟨w.heap.size, 0, none⟩ : Addr).add i) = some u := by
  intro i u hi
  rw [Go.WideShapes.add_plain, Nat.zero_add, cell_new]
  simpa using hi
theorem OwnP.set0 {w : World} {base g n cap : Nat} {p p' : Pers} {r : List Pers} (h : OwnP w base (.slice (some ⟨g, 0, none⟩) n cap) (p :: r)) {c : Nat} {z : Int} (hc : c < 4) (hp : (pcs p).set c (.int .i64 z) = pcs p') :
    OwnP (w.setCell ⟨g, c, none⟩ (.int .i64 z)) base (.slice (some ⟨g, 0, none⟩) n cap) (p' :: r) := by
  have hn : n = (p :: r).length := by obtain ⟨_, _, e, _⟩ := h.form; cases e; rfl
  subst hn
  have h2 := (h.1.stored c (.int .i64 z)).1
  refine ⟨?_, by simp⟩
  have e : (cellsP (p :: r)).set c (.int .i64 z) = cellsP (p' :: r) := by
    unfold cellsP
    rw [List.flatMap_cons, List.flatMap_cons, ← hp, List.set_append_left]
    simp [pcs]; exact hc
  rw [e] at h2
  exact h2

theorem OwnP.set0' {w : World} {base g n cap : Nat} {p p' : Pers} {ps r : List Pers} (h : OwnP w base (.slice (some ⟨g, 0, none⟩) n cap) ps) (hps : ps = p :: r) {c : Nat} {z : Int} (hc : c < 4) (hp : (pcs p).set c (.int .i64 z) = pcs p') :
    OwnP (w.setCell ⟨g, c, none⟩ (.int .i64 z)) base (.slice (some ⟨g, 0, none⟩) n cap) (p' :: r) := by subst hps; exact h.set0 hc hp
theorem set_four (W : World) (b : Nat) (x j s y : Value) (h : ∀ i, i < 4 → (W.cell? ⟨b, i, none⟩).isSome = true) (W' : World) (e : W' = (((W.setCell ⟨b, 0, none⟩ x).setCell ⟨b, 1, none⟩ j).setCell ⟨b, 2, none⟩ s).setCell ⟨b, 3, none⟩ y) :
    W'.cell? ⟨b, 0, none⟩ = some x ∧ W'.cell? ⟨b, 1, none⟩ = some j ∧ W'.cell? ⟨b, 2, none⟩ = some s ∧ W'.cell? ⟨b, 3, none⟩ = some y ∧ (∀ i, W'.frozen? ⟨b, i, none⟩ = W.frozen? ⟨b, i, none⟩) ∧ W.grownBy W' (some b) := by
  subst e
  have h2 := World.cell?_setCells_in b [x, j, s, y] 0 W (fun i hi => by rw [Nat.zero_add]; exact h i hi)
  exact ⟨h2 0 (by simp), h2 1 (by simp), h2 2 (by simp), h2 3 (by simp), fun i => World.frozen?_setCells b [x, j, s, y] 0 W ⟨b, i, none⟩, grow_set (grow_set (grow_set (grow_set (grow_refl _ _) _ _) _ _) _ _) _ _⟩

/-- the region in which a copied person's pay is changed: d1: the lot has been drawn; d2: the pay has been written -/
def PayG (w : World) (B : Nat) (a : Option Addr) (len cap : Nat) (zs : List Int) (p1 : Int) (v : Value) (ps : List Pers) (bx : Nat) (x j s y : Int) (d1 d2 : Bool) (W : World) : Prop :=
  ∃ p' y', (d1 = false → p' = p1) ∧ p1 ≤ p' ∧ p' ≤ p1 + 1 ∧ Rd W B a len cap zs p' ∧ w.grownBy W (some B) ∧ OwnP W w.heap.size v ps ∧ W.cell? ⟨bx, 0, none⟩ = some (.int .i64 x) ∧ W.cell? ⟨bx, 1, none⟩ = some (.int .i64 j) ∧ W.cell? ⟨bx, 2, none⟩ = some (.int .i64 s) ∧ W.cell? ⟨bx, 3, none⟩ = some (.int .i64 y') ∧ (d2 = false → y' = y) ∧ W.frozen? ⟨bx, 3, none⟩ = false
/-- the values of its operations -/
def PayF (B bx : Nat) (y : Int) : Nat → Value → Prop
  | 0, v => v = .pointer (some ⟨bx, 3, none⟩)
  | 1, v => v = .int .i64 y
  | 2, v => v = .pointer (some ⟨B, 0, none⟩)
  | 3, v => ∃ z, v = .int .i64 z
  | 4, v => ∃ z, v = .int .i64 z
  | 5, v => ∃ z, v = .int .i64 z
  | 6, v => ∃ z, v = .int .i64 z
  | 7, v => v = .pointer (some ⟨bx, 3, none⟩)
  | _, _ => True

/-- people are drawn -/
def DrewPpl (w : World) (B : Nat) (a : Option Addr) (len cap : Nat) (zs : List Int) (p : Int) (e : Ending) (w' : World) : Prop :=
  ∃ v ps q, e = .returned v ∧ Hid (OwnP w' w.heap.size v ps) ∧ ps.length ≤ 8 ∧ p ≤ q ∧ q ≤ p + 100 ∧ Hid (Rd w' B a len cap zs q) ∧ Hid (w.grownBy w' (some B))

set_option maxRecDepth 100000 in
set_option maxHeartbeats 4000000 in
theorem sPeople (w : World) (B : Nat) (a : Option Addr) (len cap : Nat) (zs : List Int) (p : Int) (h : Rd w B a len cap zs p) (hp : p < 980000) :
    Calls Try.prog 17 #[.pointer (some ⟨B, 0, none⟩), .int .i64 8] w (DrewPpl w B a len cap zs p) := by
  obtain ⟨i0, hi0, hz0, hz1, hz2⟩ := info_parts Try.info_pers
  have hB := h.lt
  have R0 := Lib.hid (h.alloc (.cells #[] 46))
  have G0 : Hid (w.grownBy (w.alloc (.cells #[] 46)) (some B)) := World.grownBy_alloc _ _ _
  have O0 := Lib.hid (OwnP.empty w w.heap.size (Nat.le_refl _))
  go_enter Try.func17, Try.ntmps17
  go_wp2_with fail
  refine (pick_use _ B a len cap zs p 9 R0.out (by omega)).mono ?_
  rintro e w1 ⟨n, rfl, hn, r1, g1⟩
  have hn8 : n ≤ 8 := by omega
  have R1 := Lib.hid r1
  have G1 := Lib.hid (grow_trans G0.out g1)
  have O1 := Lib.hid (O0.out.keptB g1 (by simp [Value.ownBlock]; omega))
  clear R0 G0 O0 r1 g1 hn
  go_wp2_with fail
  go_loopw [5, 7] (fun v i wr => ∃ (ps : List Pers) (g cp : Nat) (q : Int), ps.length ≤ n ∧ i = .int .i64 (ps.length : Int) ∧ v = .slice (some ⟨g, 0, none⟩) ps.length cp ∧ Hid (OwnP wr w.heap.size (.slice (some ⟨g, 0, none⟩) ps.length cp) ps) ∧ p + 1 ≤ q ∧ q ≤ p + 1 + 8 * ps.length ∧ Hid (Rd wr B a len cap zs q) ∧ Hid (w.grownBy wr (some B))) (fun _ i _ => n - (intOf i).toNat)
  case atStart => exact ⟨[], _, 0, p + 1, Nat.zero_le _, rfl, rfl, O1, by omega, by simp, R1, G1⟩
  case round =>
    clear R1 G1 O1
    obtain ⟨ps, g, cp, q, hk, rfl, rfl, ho, hq1, hq2, hrd, hgr⟩ := hrel
    have hgb : w.heap.size ≤ g := (ho.out.1.lt g rfl).1
    by_cases hlt : ps.length < n
    · have kn : (ps.length : Int) < (n : Int) := by omega
      go_wp2_with fail
      refine (sPerson _ B a len cap zs q hrd.out (by omega)).mono ?_
      rintro e w1 ⟨x, j, s, y, rfl, r1, g1⟩
      have hB1 : B < w1.heap.size := r1.lt
      have HO1 := Lib.hid ((ho.out.keptB g1 (by simp [Value.ownBlock]; omega)).alloc (.cells #[.int .i64 x, .int .i64 j, .int .i64 s, .int .i64 y] 46))
      have HR1 := Lib.hid (r1.alloc (.cells #[.int .i64 x, .int .i64 j, .int .i64 s, .int .i64 y] 46))
      have HG1 := Lib.hid (grow_alloc (grow_trans hgr.out g1) (.cells #[.int .i64 x, .int .i64 j, .int .i64 s, .int .i64 y] 46))
      have hws : w.heap.size ≤ w1.heap.size := (grow_trans hgr.out g1).size
      have b0 : (w1.alloc (.cells #[.int .i64 x, .int .i64 j, .int .i64 s, .int .i64 y] 46)).cell? ⟨w1.heap.size, 0, none⟩ = some (.int .i64 x) := by rw [cell_new]; rfl
      have b1 : (w1.alloc (.cells #[.int .i64 x, .int .i64 j, .int .i64 s, .int .i64 y] 46)).cell? ⟨w1.heap.size, 1, none⟩ = some (.int .i64 j) := by rw [cell_new]; rfl
      have b2 : (w1.alloc (.cells #[.int .i64 x, .int .i64 j, .int .i64 s, .int .i64 y] 46)).cell? ⟨w1.heap.size, 2, none⟩ = some (.int .i64 s) := by rw [cell_new]; rfl
      have b3 : (w1.alloc (.cells #[.int .i64 x, .int .i64 j, .int .i64 s, .int .i64 y] 46)).cell? ⟨w1.heap.size, 3, none⟩ = some (.int .i64 y) := by rw [cell_new]; rfl
      have f0 : ∀ i, (w1.alloc (.cells #[.int .i64 x, .int .i64 j, .int .i64 s, .int .i64 y] 46)).frozen? ⟨w1.heap.size, i, none⟩ = false := fun i => frozen_new _ _ _ _
      have hbl : w1.heap.size < (w1.alloc (.cells #[.int .i64 x, .int .i64 j, .int .i64 s, .int .i64 y] 46)).heap.size := by simp
      have hgbx : g < w1.heap.size := ((ho.out.keptB g1 (by simp [Value.ownBlock]; omega)).1.lt g rfl).2
      clear r1 g1 ho hrd hgr
      go_upto_region 7 with fail
      generalize hwa : w1.alloc (.cells #[.int .i64 x, .int .i64 j, .int .i64 s, .int .i64 y] 46) = wa at *
      clear hwa
      generalize w1.heap.size = bx at *
      by_cases h0 : ps.length = 0
      · have d0 : decide ((0 : Int) < (ps.length : Int)) = false := decide_eq_false (by omega)
        have d1 : decide (0 < ps.length) = false := decide_eq_false (by omega)
        clear h0
        have hgW : g < wa.heap.size := (HO1.out.1.lt g rfl).2
        have hwW : w.heap.size ≤ wa.heap.size := HG1.out.size
        go_wp2_with (at_builtin; refine wpList_append_own_at _ rfl _ _ 23 rfl w.heap.size 46 i0 (.agg #[.int .i64 0, .int .i64 0, .int .i64 0, .int .i64 0]) 4 32 Try.underlying23 hi0 hz0 hz1 hz2 rfl (by decide) _ _ _ rfl (HO1.out.1.alloc _) ⟨wa.heap.size, 0, none⟩ 1 1 [.int .i64 x, .int .i64 j, .int .i64 s, .int .i64 y] rfl rfl (cell_four_new _ _ _ _ _ _) (by simp [Value.oneCell']) ?d3 ?d4 ?d5 ?_)
        case d3 => unfold maxLen; omega
        case d4 => omega
        case d5 => simp; omega
        intro v9 w9 hown hgrow hnil hat
        have HO9 : Hid (OwnP w9 w.heap.size v9 (ps ++ [(x, j, s, y)])) := ⟨by rw [List.length_append, cellsP_app]; exact hown, by simpa using hnil⟩
        have HR9 := Lib.hid ((HR1.out.alloc (.cells #[.int .i64 x, .int .i64 j, .int .i64 s, .int .i64 y] 46)).kept hgrow (fun k e => by
          have e2 : g = k := by simpa [Value.ownBlock] using e
          omega))
        have HG9 := Lib.hid (grow_beside (grow_alloc HG1.out (.cells #[.int .i64 x, .int .i64 j, .int .i64 s, .int .i64 y] 46)) hgrow hgb)
        obtain ⟨g9, c9, hv9, _⟩ := HO9.out.form
        have hl9 : (ps ++ [(x, j, s, y)]).length = ps.length + 1 := by simp
        rw [hv9] at HO9
        rw [hl9] at hv9
        subst hv9
        clear hown hgrow hnil hat
        go_wp2_with fail
        go_roundw
        case rel => exact ⟨ps ++ [(x, j, s, y)], g9, c9, q + 5, by rw [hl9]; omega, by rw [hl9]; go_num, by rw [hl9], HO9, by omega, by rw [hl9]; omega, HR9, HG9⟩
        case measure => simp [intOf]; omega
      · have d0 : decide ((0 : Int) < (ps.length : Int)) = true := decide_eq_true (by omega)
        have d1 : decide (0 < ps.length) = true := decide_eq_true (by omega)
        have hl0 : 0 < ps.length := by omega
        clear h0
        go_wp2_with fail
        refine (pick_use _ B a len cap zs (q + 5) 3 HR1.out (by omega)).mono ?_
        rintro e w2 ⟨m, rfl, hm, r2, g2⟩
        have HO2 := Lib.hid (HO1.out.keptB g2 (by simp [Value.ownBlock]; omega))
        have HR2 := Lib.hid r2
        have HG2 := Lib.hid (grow_trans HG1.out g2)
        replace b0 := g2.cell b0 (by simp; omega)
        replace b1 := g2.cell b1 (by simp; omega)
        replace b2 := g2.cell b2 (by simp; omega)
        replace b3 := g2.cell b3 (by simp; omega)
        replace f0 : ∀ i, w2.frozen? ⟨bx, i, none⟩ = false := fun i => (World.frozen?_of_block (a := ⟨bx, i, none⟩) (g2.block bx hbl (by simp; omega))).trans (f0 i)
        replace hbl : bx < w2.heap.size := Nat.lt_of_lt_of_le hbl g2.size
        clear r2 g2 HO1 HR1 HG1
        by_cases hm0 : m = 0
        rotate_left
        · have c0 : ((m : Int) == 0) = false := by simp; omega
          clear hm0
          have hgW : g < w2.heap.size := (HO2.out.1.lt g rfl).2
          have hwW : w.heap.size ≤ w2.heap.size := HG2.out.size
          go_wp2_with (at_builtin; refine wpList_append_own_at _ rfl _ _ 23 rfl w.heap.size 46 i0 (.agg #[.int .i64 0, .int .i64 0, .int .i64 0, .int .i64 0]) 4 32 Try.underlying23 hi0 hz0 hz1 hz2 rfl (by decide) _ _ _ rfl (HO2.out.1.alloc _) ⟨w2.heap.size, 0, none⟩ 1 1 [.int .i64 x, .int .i64 j, .int .i64 s, .int .i64 y] rfl rfl (cell_four_new _ _ _ _ _ _) (by simp [Value.oneCell']) ?d3 ?d4 ?d5 ?_)
          case d3 => unfold maxLen; omega
          case d4 => omega
          case d5 => simp; omega
          intro v9 w9 hown hgrow hnil hat
          have HO9 : Hid (OwnP w9 w.heap.size v9 (ps ++ [(x, j, s, y)])) := ⟨by rw [List.length_append, cellsP_app]; exact hown, by simpa using hnil⟩
          have HR9 := Lib.hid ((HR2.out.alloc (.cells #[.int .i64 x, .int .i64 j, .int .i64 s, .int .i64 y] 46)).kept hgrow (fun k e => by
            have e2 : g = k := by simpa [Value.ownBlock] using e
            omega))
          have HG9 := Lib.hid (grow_beside (grow_alloc HG2.out (.cells #[.int .i64 x, .int .i64 j, .int .i64 s, .int .i64 y] 46)) hgrow hgb)
          obtain ⟨g9, c9, hv9, _⟩ := HO9.out.form
          have hl9 : (ps ++ [(x, j, s, y)]).length = ps.length + 1 := by simp
          rw [hv9] at HO9
          rw [hl9] at hv9
          subst hv9
          clear hown hgrow hnil hat
          go_wp2_with fail
          go_roundw
          case rel => exact ⟨ps ++ [(x, j, s, y)], g9, c9, q + 5 + 1, by rw [hl9]; omega, by rw [hl9]; go_num, by rw [hl9], HO9, by omega, by rw [hl9]; omega, HR9, HG9⟩
          case measure => simp [intOf]; omega
        · subst hm0
          go_wp2_with fail
          refine (pick_use _ B a len cap zs (q + 5 + 1) (ps.length : Int) HR2.out (by omega)).mono ?_
          rintro e w3 ⟨ix, rfl, hid, r3, g3⟩
          have hidl : ix < ps.length := by omega
          have HO3 := Lib.hid (HO2.out.keptB g3 (by simp [Value.ownBlock]; omega))
          have HR3 := Lib.hid r3
          have HG3 := Lib.hid (grow_trans HG2.out g3)
          replace b0 := g3.cell b0 (by simp; omega)
          replace b1 := g3.cell b1 (by simp; omega)
          replace b2 := g3.cell b2 (by simp; omega)
          replace b3 := g3.cell b3 (by simp; omega)
          replace f0 : ∀ i, w3.frozen? ⟨bx, i, none⟩ = false := fun i => (World.frozen?_of_block (a := ⟨bx, i, none⟩) (g3.block bx hbl (by simp; omega))).trans (f0 i)
          replace hbl : bx < w3.heap.size := Nat.lt_of_lt_of_le hbl g3.size
          clear r3 g3 HO2 HR2 HG2 hid hm
          have o0 := HO3.out.cell (c := 0) hidl (by omega)
          have o1 := HO3.out.cell (c := 1) hidl (by omega)
          have o2 := HO3.out.cell (c := 2) hidl (by omega)
          have o3 := HO3.out.cell (c := 3) hidl (by omega)
          obtain ⟨pp, hpp⟩ : ∃ pp, ps[ix]?.getD p0 = pp := ⟨_, rfl⟩
          rw [hpp] at o0 o1 o2 o3
          obtain ⟨x2, j2, s2, y2⟩ := pp
          clear hpp
          simp only [pc, Nat.add_zero] at o0 o1 o2 o3
          have f00 := f0 0
          have f01 := f0 1
          have f02 := f0 2
          have f03 := f0 3
          have kid : (ix : Int) < (ps.length : Int) := by omega
          have hset := set_four w3 bx (.int .i64 x2) (.int .i64 j2) (.int .i64 s2) (.int .i64 y2) (fun i hi => by
            have : i = 0 ∨ i = 1 ∨ i = 2 ∨ i = 3 := by omega
            rcases this with rfl | rfl | rfl | rfl
            · rw [b0]; rfl
            · rw [b1]; rfl
            · rw [b2]; rfl
            · rw [b3]; rfl) _ rfl
          go_wp2_with fail
          obtain ⟨n0, n1, n2, n3, nf, ng⟩ := hset
          generalize (((w3.setCell ⟨bx, 0, none⟩ (.int .i64 x2)).setCell ⟨bx, 1, none⟩ (.int .i64 j2)).setCell ⟨bx, 2, none⟩ (.int .i64 s2)).setCell ⟨bx, 3, none⟩ (.int .i64 y2) = w4 at *
          have HO4 := Lib.hid (HO3.out.keptB ng (by simp [Value.ownBlock]; omega))
          have HR4 := Lib.hid (HR3.out.kept ng (fun k e => by cases e; omega))
          have HG4 := Lib.hid (grow_beside HG3.out ng hws)
          have nf3 : w4.frozen? ⟨bx, 3, none⟩ = false := (nf 3).trans f03
          have hbl4 : bx < w4.heap.size := Nat.lt_of_lt_of_le hbl ng.size
          clear ng nf HO3 HR3 HG3 b0 b1 b2 b3 f00 f01 f02 f03 f0 o0 o1 o2 o3
          refine region_st (by kernel_rfl) (by kernel_rfl) (by kernel_rfl) (fun bt W => PayG w B a len cap zs (q + 5 + 1 + 1) (.slice (some ⟨g, 0, none⟩) ps.length cp) ps bx x2 j2 s2 y2 (bt 3) (bt 8) W) (PayF B bx y2) ?start ?step ?fin
          case start => exact ⟨_, _, fun _ => rfl, by omega, by omega, HR4.out.drew, grow_drew HG4.out, ⟨HO4.out.1, HO4.out.2⟩, n0, n1, n2, n3, fun _ => rfl, nf3⟩
          case step =>
            intro A W bt hG hf i o ho hni hcl hdep
            have e0 : A.eval (.tmp 0) = .pointer (some ⟨B, 0, none⟩) := hf 0 (by kernel_rfl)
            have e8 : A.eval (.tmp 8) = .pointer (some ⟨bx, 0, none⟩) := hf 8 (by kernel_rfl)
            obtain ⟨p', y', hp1, hp2, hp3, hrd, hgr, hou, u0, u1, u2, u3, hy, hfz⟩ := id hG
            have hG2 : ∀ k, k ≠ 3 → k ≠ 8 → PayG w B a len cap zs (q + 5 + 1 + 1) (.slice (some ⟨g, 0, none⟩) ps.length cp) ps bx x2 j2 s2 y2 (if 3 = k then true else bt 3) (if 8 = k then true else bt 8) W := fun k h1 h2 => by
              rw [if_neg (Ne.symm h1), if_neg (Ne.symm h2)]; exact hG
            rcases i with _ | i
            · cases ho
              exact ⟨rfl, op_val (v := .pointer (some ⟨bx, 3, none⟩)) (w' := W) (by simp [go_sem, evT e8]) ⟨_, rfl, hG2 0 (by decide) (by decide), rfl⟩⟩
            rcases i with _ | i
            · cases ho
              have h1 : A.eval (.tmp 36) = .pointer (some ⟨bx, 3, none⟩) := hdep 0 (by kernel_rfl) _ rfl
              have hd : bt 8 = false := by
                cases hb : bt 8 with
                | false => rfl
                | true =>
                  have k0 := hcl 8 _ hb rfl 6 (by kernel_rfl)
                  have k1 := hcl 6 _ k0 rfl 5 (by kernel_rfl)
                  have k2 := hcl 5 _ k1 rfl 1 (by kernel_rfl)
                  rw [hni] at k2; cases k2
              have hyy := hy hd
              subst hyy
              exact ⟨rfl, op_val (v := .int .i64 y') (w' := W) (by simp [go_sem, evT h1, u3]) ⟨_, rfl, hG2 1 (by decide) (by decide), rfl⟩⟩
            rcases i with _ | i
            · cases ho
              exact ⟨rfl, _, rfl, hG2 2 (by decide) (by decide), e0⟩
            rcases i with _ | i
            · cases ho
              have h1 : A.eval (.tmp 38) = .pointer (some ⟨B, 0, none⟩) := hdep 2 (by kernel_rfl) _ rfl
              refine ⟨rfl, op_enter (w' := W) (f := 18) (args := #[.pointer (some ⟨B, 0, none⟩), .int .i64 3]) (by simp [go_sem, evT h1]) ?_⟩
              have hpp := hp1 hni
              refine (pick_use W B a len cap zs p' 3 hrd (by omega)).mono ?_
              rintro e W2 ⟨m, rfl, hm, r2, g2⟩
              have hbB : bx ≠ B := by omega
              refine ⟨_, rfl, _, rfl, ?_, ⟨_, rfl⟩⟩
              refine ⟨p' + 1, y', fun h => ?_, by omega, by omega, r2, grow_trans hgr g2, hou.keptB g2 (by simp [Value.ownBlock]; omega), g2.cell u0 (by simp; omega), g2.cell u1 (by simp; omega), g2.cell u2 (by simp; omega), g2.cell u3 (by simp; omega), fun h => hy (by simpa using h), (World.frozen?_of_block (a := ⟨bx, 3, none⟩) (g2.block bx (World.block_lt_of_cell? _ _ u3) (by simp; omega))).trans hfz⟩
              simp at h
            rcases i with _ | i
            · cases ho
              obtain ⟨z, h1⟩ : ∃ z, A.eval (.tmp 39) = .int .i64 z := hdep 3 (by kernel_rfl) _ rfl
              exact ⟨rfl, op_val (v := .int .i64 (IntKind.i64.wrap (100 * z))) (w' := W) (by simp [go_sem, evT h1]) ⟨_, rfl, hG2 4 (by decide) (by decide), ⟨_, rfl⟩⟩⟩
            rcases i with _ | i
            · cases ho
              have h1 : A.eval (.tmp 37) = .int .i64 y2 := hdep 1 (by kernel_rfl) _ rfl
              obtain ⟨z, h2⟩ : ∃ z, A.eval (.tmp 40) = .int .i64 z := hdep 4 (by kernel_rfl) _ rfl
              exact ⟨rfl, op_val (v := .int .i64 (IntKind.i64.wrap (y2 + z))) (w' := W) (by simp [go_sem, evT h1, evT h2]) ⟨_, rfl, hG2 5 (by decide) (by decide), ⟨_, rfl⟩⟩⟩
            rcases i with _ | i
            · cases ho
              obtain ⟨z, h2⟩ : ∃ z, A.eval (.tmp 41) = .int .i64 z := hdep 5 (by kernel_rfl) _ rfl
              exact ⟨rfl, op_val (v := .int .i64 (z.tmod 1000)) (w' := W) (by simp [go_sem, evT h2]) ⟨_, rfl, hG2 6 (by decide) (by decide), ⟨_, rfl⟩⟩⟩
            rcases i with _ | i
            · cases ho
              exact ⟨rfl, op_val (v := .pointer (some ⟨bx, 3, none⟩)) (w' := W) (by simp [go_sem, evT e8]) ⟨_, rfl, hG2 7 (by decide) (by decide), rfl⟩⟩
            rcases i with _ | i
            · cases ho
              have h1 : A.eval (.tmp 43) = .pointer (some ⟨bx, 3, none⟩) := hdep 7 (by kernel_rfl) _ rfl
              obtain ⟨z, h2⟩ : ∃ z, A.eval (.tmp 42) = .int .i64 z := hdep 6 (by kernel_rfl) _ rfl
              refine ⟨rfl, op_skip (w' := W.setCell ⟨bx, 3, none⟩ (.int .i64 z)) (by simp [go_sem, evT h1, evT h2, u3, hfz]) ⟨_, rfl, ?_, trivial⟩⟩
              have hgg := grow_set (b := bx) (grow_refl W (some bx)) 3 (.int .i64 z)
              refine ⟨p', z, fun h => hp1 (by simpa using h), by omega, by omega, hrd.kept hgg (fun j e => by cases e; omega), grow_beside hgr hgg hws, hou.keptB hgg (by simp [Value.ownBlock]; omega), ?_, ?_, ?_, ?_, fun h => by simp at h, ?_⟩
              · rw [World.cell?_setCell_other _ _ _ _ (by simp)]; exact u0
              · rw [World.cell?_setCell_other _ _ _ _ (by simp)]; exact u1
              · rw [World.cell?_setCell_other _ _ _ _ (by simp)]; exact u2
              · exact World.cell?_setCells_in bx [.int .i64 z] 3 W (fun j hj => by simp at hj; subst hj; rw [Nat.add_zero, u3]; rfl) 0 (by simp)
              · exact (World.frozen?_setCells bx [.int .i64 z] 3 W ⟨bx, 3, none⟩).trans hfz
            · cases ho
          case fin =>
            intro A W bt hsz' hdf hG hall hold hfact
            obtain ⟨p', y', _, hp2, hp3, hrd, hgr, hou, u0, u1, u2, u3, _, _⟩ := hG
            have HO5 := Lib.hid hou
            have HR5 := Lib.hid hrd
            have HG5 := Lib.hid hgr
            obtain ⟨f, rfl⟩ := frame_lit [36, 37, 38, 39, 40, 41, 42, 43] (by kernel_rfl) hsz' hdf hold
            clear hsz' hdf hall hold hfact hou hrd hgr HO4 HR4 HG4 n0 n1 n2 n3 nf3
            simp only [List.foldl_cons, List.foldl_nil, List.setIfInBounds_toArray, List.set_cons_succ, List.set_cons_zero]
            have hgW : g < W.heap.size := (HO5.out.1.lt g rfl).2
            have hwW : w.heap.size ≤ W.heap.size := HG5.out.size
            go_wp2_with (at_builtin; refine wpList_append_own_at _ rfl _ _ 23 rfl w.heap.size 46 i0 (.agg #[.int .i64 0, .int .i64 0, .int .i64 0, .int .i64 0]) 4 32 Try.underlying23 hi0 hz0 hz1 hz2 rfl (by decide) _ _ _ rfl (HO5.out.1.alloc _) ⟨W.heap.size, 0, none⟩ 1 1 [.int .i64 x2, .int .i64 j2, .int .i64 s2, .int .i64 y'] rfl rfl (cell_four_new _ _ _ _ _ _) (by simp [Value.oneCell']) ?d3 ?d4 ?d5 ?_)
            case d3 => unfold maxLen; omega
            case d4 => omega
            case d5 => simp; omega
            intro v9 w9 hown hgrow hnil hat
            have HO9 : Hid (OwnP w9 w.heap.size v9 (ps ++ [(x2, j2, s2, y')])) := ⟨by rw [List.length_append, cellsP_app]; exact hown, by simpa using hnil⟩
            have HR9 := Lib.hid ((HR5.out.alloc (.cells #[.int .i64 x2, .int .i64 j2, .int .i64 s2, .int .i64 y'] 46)).kept hgrow (fun k e => by
              have e2 : g = k := by simpa [Value.ownBlock] using e
              omega))
            have HG9 := Lib.hid (grow_beside (grow_alloc HG5.out (.cells #[.int .i64 x2, .int .i64 j2, .int .i64 s2, .int .i64 y'] 46)) hgrow hgb)
            obtain ⟨g9, c9, hv9, _⟩ := HO9.out.form
            have hl9 : (ps ++ [(x2, j2, s2, y')]).length = ps.length + 1 := by simp
            rw [hv9] at HO9
            rw [hl9] at hv9
            subst hv9
            clear hown hgrow hnil hat
            go_wp2_with fail
            go_roundw
            case rel => exact ⟨ps ++ [(x2, j2, s2, y')], g9, c9, p', by rw [hl9]; omega, by rw [hl9]; go_num, by rw [hl9], HO9, by omega, by rw [hl9]; omega, HR9, HG9⟩
            case measure => simp [intOf]; omega
    · have hke : ps.length = n := by omega
      by_cases hn0 : n = 0
      · have d0 : decide ((0 : Int) < (n : Int)) = false := decide_eq_false (by omega)
        have d1 : decide (0 < n) = false := decide_eq_false (by omega)
        clear hn0
        go_wp2_with fail
        go_ret
        exact ⟨_, ps, q, rfl, ho, by omega, by omega, by omega, hrd, hgr⟩
      · have d0 : decide ((0 : Int) < (n : Int)) = true := decide_eq_true (by omega)
        have d1 : decide (0 < n) = true := decide_eq_true (by omega)
        have hl0 : 0 < ps.length := by omega
        have hli : (0 : Int) < (ps.length : Int) := by omega
        obtain ⟨p1, rr, hps⟩ : ∃ p1 rr, ps = p1 :: rr := by
          cases ps with
          | nil => simp at hl0
          | cons p1 rr => exact ⟨p1, rr, rfl⟩
        have HPS := Lib.hid hps
        have HRL : Hid (∀ p2 : Pers, (p2 :: rr).length ≤ 8) := fun p2 => by
          have : ps.length = rr.length + 1 := by rw [hps]; simp
          simp; omega
        have d2 : decide ((ps.length : Int) < (n : Int)) = false := decide_eq_false (by omega)
        have d3 : decide (ps.length < n) = false := decide_eq_false (by omega)
        clear hn0 hps hlt hke
        go_wp2_with fail
        refine (pick_use _ B a len cap zs q 40 hrd.out (by omega)).mono ?_
        rintro e w2 ⟨m, rfl, _, r2, g2⟩
        have HO2 := Lib.hid (ho.out.keptB g2 (by simp [Value.ownBlock]; omega))
        have HR2 := Lib.hid r2
        have HG2 := Lib.hid (grow_trans hgr.out g2)
        have hB2 : B < w2.heap.size := r2.lt
        clear ho hrd hgr r2 g2
        by_cases m0 : m = 0
        · subst m0
          go_wp2_with fail
          have HRA := Lib.hid (HR2.out.alloc (.cells #[.int .i64 (-1), .int .i64 4] 3))
          refine (pick_use _ B a len cap zs (q + 1) 2 HRA.out (by omega)).mono ?_
          rintro e w3 ⟨k, rfl, hk, r3, g3⟩
          obtain ⟨z, _, _, hz3⟩ := two_lit (-1) 4 k (-1) 4 (by omega) (by omega) (by omega) (by omega) (by omega)
          have hz4 := cell_lit g3 hB2 k _ hz3
          have hk2 : (k : Int) < 2 := by have := two_lt hz3; omega
          have G3 : w2.grownBy w3 (some B) := grow_trans (World.grownBy_alloc _ _ _) g3
          have HO3 := Lib.hid (HO2.out.keptB G3 (by simp [Value.ownBlock]; omega))
          have HR3 := Lib.hid r3
          have HG3 := Lib.hid (grow_trans HG2.out G3)
          have o0 : w3.cell? ⟨g, 0, none⟩ = some (pc (ps[0]?.getD p0) 0) := HO3.out.cell (i := 0) (c := 0) hl0 (by omega)
          have f0 := HO3.out.1.frozenAt 0
          generalize pc (ps[0]?.getD p0) 0 = u0 at o0
          have hgg := grow_set (b := g) (grow_refl w3 (some g)) 0 (.int .i64 z)
          have HO4 : Hid (OwnP (w3.setCell ⟨g, 0, none⟩ (.int .i64 z)) w.heap.size (.slice (some ⟨g, 0, none⟩) ps.length cp) ((z, p1.2) :: rr)) := OwnP.set0' HO3.out HPS.out (c := 0) (by omega) rfl
          have HR4 := Lib.hid (HR3.out.kept hgg (fun k e => by cases e; omega))
          have HG4 := Lib.hid (grow_beside HG3.out hgg hgb)
          clear r3 g3 G3 hgg hk HO2 HR2 HG2 HO3 HR3 HG3 hz3
          go_wp2_with fail
          go_ret
          exact ⟨_, _, q + 1 + 1, rfl, HO4, HRL.out _, by omega, by omega, HR4, HG4⟩
        have c0 : ((m : Int) == 0) = false := by simp; omega
        by_cases m1 : m = 1
        · subst m1
          have o0 : w2.cell? ⟨g, 3, none⟩ = some (pc (ps[0]?.getD p0) 3) := HO2.out.cell (i := 0) (c := 3) hl0 (by omega)
          have f0 := HO2.out.1.frozenAt 3
          generalize pc (ps[0]?.getD p0) 3 = u0 at o0
          have hgg := grow_set (b := g) (grow_refl w2 (some g)) 3 (.int .i64 1000)
          have HO4 : Hid (OwnP (w2.setCell ⟨g, 3, none⟩ (.int .i64 1000)) w.heap.size (.slice (some ⟨g, 0, none⟩) ps.length cp) ((p1.1, p1.2.1, p1.2.2.1, 1000) :: rr)) := OwnP.set0' HO2.out HPS.out (c := 3) (by omega) rfl
          have HR4 := Lib.hid (HR2.out.kept hgg (fun k e => by cases e; omega))
          have HG4 := Lib.hid (grow_beside HG2.out hgg hgb)
          clear hgg HO2 HR2 HG2 m0
          go_wp2_with fail
          go_ret
          exact ⟨_, _, q + 1, rfl, HO4, HRL.out _, by omega, by omega, HR4, HG4⟩
        have c1 : ((m : Int) == 1) = false := by simp; omega
        by_cases m2 : m = 2
        · subst m2
          have o0 : w2.cell? ⟨g, 2, none⟩ = some (pc (ps[0]?.getD p0) 2) := HO2.out.cell (i := 0) (c := 2) hl0 (by omega)
          have f0 := HO2.out.1.frozenAt 2
          generalize pc (ps[0]?.getD p0) 2 = u0 at o0
          have hgg := grow_set (b := g) (grow_refl w2 (some g)) 2 (.int .i64 2)
          have HO4 : Hid (OwnP (w2.setCell ⟨g, 2, none⟩ (.int .i64 2)) w.heap.size (.slice (some ⟨g, 0, none⟩) ps.length cp) ((p1.1, p1.2.1, 2, p1.2.2.2) :: rr)) := OwnP.set0' HO2.out HPS.out (c := 2) (by omega) rfl
          have HR4 := Lib.hid (HR2.out.kept hgg (fun k e => by cases e; omega))
          have HG4 := Lib.hid (grow_beside HG2.out hgg hgb)
          clear hgg HO2 HR2 HG2 m0 m1
          go_wp2_with fail
          go_ret
          exact ⟨_, _, q + 1, rfl, HO4, HRL.out _, by omega, by omega, HR4, HG4⟩
        have c2 : ((m : Int) == 2) = false := by simp; omega
        clear m0 m1 m2
        go_wp2_with fail
        go_ret
        exact ⟨_, ps, q + 1, rfl, HO2, by omega, by omega, by omega, HR2, HG2⟩

end Go.Proofs.Ytdlpcoafbmhjjaa

namespace Go.Proofs.Ytdlpcoafbmhjjaa
open Go.RowKit

/-- what the drawing gives to a law -/
def DrawnPpl (w : World) (e : Ending) (w' : World) : Prop :=
  ∃ v ps k, e = .returned (.tuple #[v, .int .i64 k]) ∧ Hid (PplS w' (w.heap.size ≤ ·) v ps) ∧ ps.length ≤ 8 ∧ Below w.heap.size w w'

set_option maxRecDepth 100000 in
set_option maxHeartbeats 2000000 in
theorem drawPeopleWithout (w : World) (a : Option Addr) (len cap : Nat) (zs : List Int) (h : IsRow .u8 w a len cap zs) :
    Calls Try.prog 5 #[.slice a len cap] w (DrawnPpl w) := by
  have H := Lib.hid h; clear h
  go_enter Try.func5, Try.ntmps5
  go_wp2_with fail
  refine (open_any _ _ _ _ _ H.out).mono ?_
  rintro e w1 ⟨B, a1, l1, c1, z1, hB, rfl, r1, b1⟩
  have hs1 : w.heap.size ≤ w1.heap.size := b1.size
  have hB1 : B < w1.heap.size := r1.lt
  go_wp2_with fail
  refine (sPeople _ B _ _ _ _ _ r1 (by omega)).mono ?_
  rintro e w2 ⟨v, ps, q, rfl, ho, hl, hq1, hq2, hr, hg⟩
  obtain ⟨g, cp, rfl, hgb, _, _, _⟩ := ho.out.form
  have B2 := Lib.hid (below_grow b1 hg.out hB)
  have hs2 : w.heap.size ≤ w2.heap.size := B2.out.size
  have HO2 := Lib.hid (ho.out.mono hs1)
  have hB2 : B < w2.heap.size := hr.out.lt
  clear r1 b1 ho hg
  have fin : Hid (∀ (W : World) (k : Int), w2.grownBy W (some B) → DrawnPpl w (.returned (.tuple #[.slice (some ⟨g, 0, none⟩) ps.length cp, .int .i64 k])) W) := fun W k hg =>
    ⟨_, ps, k, rfl, (HO2.out.keptB hg (by simp [Value.ownBlock]; omega)).ppl, hl, below_grow B2.out hg hB⟩
  by_cases h0 : ps.length = 0
  · have d0 : ((ps.length : Int) == 0) = true := beq_iff_eq.2 (by omega)
    have d1 : (ps.length == 0) = true := beq_iff_eq.2 (by omega)
    clear h0
    go_wp2_with fail
    go_region_with (first
      | (go_at_call 18; (with_reducible refine (pick_use _ B a1 l1 c1 z1 q 2 ((hr.out.alloc _).drew) (by omega)).mono ?_); rintro e w5 ⟨k, rfl, hk, r5, g5⟩; obtain ⟨z, hz1, hz2, hz3⟩ := two_lit (-1) (ps.length : Int) k (-1) 41 (by omega) (by omega) (by omega) (by omega) (by omega); have hz4 := cell_lit (ungrow_drew g5) hB2 k _ hz3; have G5 : Hid (w2.grownBy w5 (some B)) := (grow_trans (World.grownBy_alloc _ _ _) (ungrow_drew g5)); clear hk g5 r5; have hk2 : (k : Int) < 2 := by have := two_lt hz3; omega)
      | (go_at_call 18; (with_reducible refine (pick_use _ B a1 l1 c1 z1 q 2 hr.out.drew (by omega)).mono ?_); rintro e w5 ⟨k, rfl, hk, r5, g5⟩; obtain ⟨z, hz1, hz2, hz3⟩ := two_lit (-1) (ps.length : Int) k (-1) 41 (by omega) (by omega) (by omega) (by omega) (by omega); have hz4 := fun t => (cell_new w5 #[.int .i64 (-1), .int .i64 (ps.length : Int)] t k).trans hz3; have G5 : Hid (w2.grownBy w5 (some B)) := ungrow_drew g5; clear hk g5 r5; have hk2 : (k : Int) < 2 := by have := two_lt hz3; omega))
    all_goals
      go_wp2_with fail
      go_ret2
      first
        | exact fin.out _ _ (G5.out)
        | exact fin.out _ _ (grow_alloc G5.out _)
  · have d0 : ((ps.length : Int) == 0) = false := beq_eq_false_iff_ne.2 (by omega)
    have d1 : (ps.length == 0) = false := beq_eq_false_iff_ne.2 (by omega)
    clear h0
    go_wp2_with fail
    refine (pick_use _ B a1 l1 c1 z1 q 16 hr.out (by omega)).mono ?_
    rintro e w3 ⟨m, rfl, _, r3, g3⟩
    have G3 := Lib.hid g3
    have R3 := Lib.hid r3
    have hB3 : B < w3.heap.size := r3.lt
    clear r3 g3
    by_cases hm0 : m = 0
    · subst hm0
      go_wp2_with fail
      go_region_with (first
        | (go_at_call 18; (with_reducible refine (pick_use _ B a1 l1 c1 z1 (q + 1) 2 ((R3.out.alloc _).drew) (by omega)).mono ?_); rintro e w5 ⟨k, rfl, hk, r5, g5⟩; obtain ⟨z, hz1, hz2, hz3⟩ := two_lit (-1) (ps.length : Int) k (-1) 41 (by omega) (by omega) (by omega) (by omega) (by omega); have hz4 := cell_lit (ungrow_drew g5) hB3 k _ hz3; have G5 : Hid (w3.grownBy w5 (some B)) := (grow_trans (World.grownBy_alloc _ _ _) (ungrow_drew g5)); clear hk g5 r5; have hk2 : (k : Int) < 2 := by have := two_lt hz3; omega)
        | (go_at_call 18; (with_reducible refine (pick_use _ B a1 l1 c1 z1 (q + 1) 2 R3.out.drew (by omega)).mono ?_); rintro e w5 ⟨k, rfl, hk, r5, g5⟩; obtain ⟨z, hz1, hz2, hz3⟩ := two_lit (-1) (ps.length : Int) k (-1) 41 (by omega) (by omega) (by omega) (by omega) (by omega); have hz4 := fun t => (cell_new w5 #[.int .i64 (-1), .int .i64 (ps.length : Int)] t k).trans hz3; have G5 : Hid (w3.grownBy w5 (some B)) := ungrow_drew g5; clear hk g5 r5; have hk2 : (k : Int) < 2 := by have := two_lt hz3; omega))
      all_goals
        go_wp2_with fail
        go_ret2
        first
          | exact fin.out _ _ (grow_trans G3.out G5.out)
          | exact fin.out _ _ (grow_trans G3.out (grow_alloc G5.out _))
    · have c0 : ((m : Int) == 0) = false := by simp; omega
      clear hm0
      go_wp2_with fail
      refine (pick_use _ B a1 l1 c1 z1 (q + 1) (ps.length : Int) R3.out (by omega)).mono ?_
      rintro e w4 ⟨k, rfl, _, r4, g4⟩
      go_wp2_with fail
      go_ret2
      exact fin.out _ _ (grow_trans G3.out g4)

end Go.Proofs.Ytdlpcoafbmhjjaa
