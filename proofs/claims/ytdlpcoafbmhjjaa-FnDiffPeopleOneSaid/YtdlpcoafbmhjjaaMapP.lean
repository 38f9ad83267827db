/- Maps keyed by persons: what look-ups and stores do. -/
import Derived.Test.YtdlpcoafbmhjjaaPplA
import Derived.DeepKeys4
import Derived.WideKeyEntry
import Derived.Maps.Keyed
namespace Go.Proofs.Ytdlpcoafbmhjjaa
open Go.RowKit Go.WideMaps
open Go.ChangeMaps (setBlock heap_setBlock_same heap_setBlock_other modify_eq_set)

set_option maxRecDepth 100000 in
theorem pers_law : KeyLaw Try.prog 46 := deep_law_laid (m := 8) (by kernel_rfl) (by omega) (of_decide_eq_true (by kernel_rfl)) (by kernel_rfl) (by kernel_rfl)
theorem pers_keyType : Try.prog.keyType 46 = true := by kernel_rfl
theorem pers_cells : Try.prog.cellsOf 46 = 4 := by kernel_rfl
theorem int_cells : Try.prog.cellsOf 3 = 1 := by kernel_rfl
theorem wf999 {a : Int} (h1 : 0 ≤ a) (h2 : a ≤ 999) : (Lit.int .i64 a).wf = true := WalkArith.wf_i64 (by omega)
theorem pers_key (p : Pers) (h : persOk p) : ∃ kl, keyOf Try.prog 46 (pv p) = some kl := by
  obtain ⟨a, j, s, y⟩ := p
  obtain ⟨⟨h1, h2⟩, ⟨h3, h4⟩, h5, h6, h7⟩ := h
  simp only at h1 h2 h3 h4 h5 h6 h7
  have w1 := wf999 (a := a) h1 (by omega)
  have w2 := wf999 (a := j) h3 (by omega)
  have w3 := wf999 (a := s) (by omega) (by omega)
  have w4 := wf999 (a := y) h6 h7
  obtain ⟨m, hm⟩ : ∃ m, Try.prog.types.size + 1 = m + 2 := ⟨Try.prog.types.size - 1, by have : 1 ≤ Try.prog.types.size := of_decide_eq_true (by kernel_rfl); omega⟩
  unfold keyOf pv
  rw [Try.underlying46, hm]
  simp [pers_keyType, Value.formed, Try.underlying46, pers_cells, Program.keyLits, Value.cells, int_cells, Try.underlying3, w1, w2, w3, w4]
theorem pv_inj {p q : Pers} (h : pv p = pv q) : p = q := by
  obtain ⟨a, j, s, y⟩ := p
  obtain ⟨a2, j2, s2, y2⟩ := q
  simp [pv] at h
  obtain ⟨rfl, rfl, rfl, rfl⟩ := h
  rfl

/-- the entries of a map that answers f -/
structure MapE (es : Array MapEntry) (clock : Nat) (f : Pers → Int) : Prop where
  keys : ∀ e ∈ es.toList, ∃ p, persOk p ∧ e.key = pv p ∧ e.val = .int .i64 (f p)
  out : ∀ p, persOk p → (∀ e ∈ es.toList, e.key ≠ pv p) → f p = 0
  dist : (es.toList.map (·.key)).Nodup
  old : ∀ e ∈ es.toList, e.born < clock
  nodup : (es.toList.map (·.born)).Nodup

theorem MapE.empty : MapE #[] 0 (fun _ => 0) := ⟨by simp, fun _ _ _ => rfl, by simp, by simp, by simp⟩
theorem MapE.hasKey {es : Array MapEntry} {clock : Nat} {f : Pers → Int} (E : MapE es clock f) : ∀ e ∈ es.toList, ∃ l, keyOf Try.prog 46 e.key = some l := fun e he => by
  obtain ⟨p, hp, hk, _⟩ := E.keys e he
  rw [hk]; exact pers_key p hp

/-- m[p] -/
theorem MapE.look {es : Array MapEntry} {clock : Nat} {f : Pers → Int} (E : MapE es clock f) {p : Pers} (hp : persOk p) {w : World} {b : Nat} (hb : w.heap[b]? = some (.map es clock)) :
    (Instr.lookup 70 (.map (some b)) (pv p) false).run Try.prog w = .ok (.int .i64 (f p)) w := by
  obtain ⟨kl, hkl⟩ := pers_key p hp
  rcases pers_law.find w hkl es.toList E.hasKey with ⟨h1, h2⟩ | ⟨j, e, h1, h2, h3⟩
  · have hf := E.out p hp h2
    simp [Instr.lookup, run_underlying Try.underlying70, MapKept.run_getObj_map hb, pers_law.check w _ hkl, h1, hf, Result.andThen]
  · obtain ⟨q, hq, hk, hv⟩ := E.keys e (List.mem_of_getElem? h2)
    obtain rfl : q = p := pv_inj (by rw [← hk, h3])
    simp [Instr.lookup, run_underlying Try.underlying70, MapKept.run_getObj_map hb, pers_law.check w _ hkl, h1, hv, Result.andThen]

/-- the place of p is laid -/
theorem MapE.entry {es : Array MapEntry} {clock : Nat} {f : Pers → Int} (E : MapE es clock f) {p : Pers} (hp : persOk p) :
    ∃ (v : Value) (st : Nat) (es1 : Array MapEntry) (clock1 : Nat), MapE es1 clock1 f ∧ (∃ (j : Nat) (e : MapEntry), es1.toList[j]? = some e ∧ e.key = pv p ∧ e.born = st) ∧
      ∀ (w : World) (b : Nat), w.heap[b]? = some (.map es clock) → (Instr.mapEntry 70 (.map (some b)) (pv p)).run Try.prog w = .ok (.tuple #[v, goInt st]) (setBlock w b (.map es1 clock1)) := by
  obtain ⟨kl, hkl⟩ := pers_key p hp
  by_cases hin : ∃ (j : Nat) (e : MapEntry), es.toList[j]? = some e ∧ e.key = pv p
  · obtain ⟨j, e0, hj, hk⟩ := hin
    refine ⟨e0.val, e0.born, es, clock, E, ⟨j, e0, hj, hk, rfl⟩, fun w b hb => ?_⟩
    rcases pers_law.find w hkl es.toList E.hasKey with ⟨h1, h2⟩ | ⟨i, e, h1, h2, h3⟩
    · exact absurd hk (h2 e0 (List.mem_of_getElem? hj))
    · have hij : i = j := by
        have n1 : (es.toList.map (·.key))[i]? = some (pv p) := by rw [List.getElem?_map, h2]; simp [h3]
        have n2 : (es.toList.map (·.key))[j]? = some (pv p) := by rw [List.getElem?_map, hj]; simp [hk]
        have hlt : i < (es.toList.map (·.key)).length := (List.getElem?_eq_some_iff.1 n1).1
        exact (List.getElem?_inj hlt E.dist).1 (by rw [n1, n2])
      subst hij
      obtain rfl : e = e0 := by rw [h2] at hj; exact Option.some.inj hj
      have hj' : es[i]? = some e := by simpa using h2
      have hsame : es.modify i (fun e' => { e' with key := pv p }) = es := by
        apply Array.ext'
        rw [Array.toList_modify, modify_eq_set _ _ _ _ h2]
        have : ({ e with key := pv p } : MapEntry) = e := by rw [← h3]
        rw [this]
        exact WideElems.set_self _ _ _ h2
      simp [Instr.mapEntry, run_underlying Try.underlying70, MapKept.run_getObj_map hb, pers_law.check w false hkl, h1, hj', h3, pers_law.stays w hkl, hsame, MapKept.run_setObj_map _ hb, Result.andThen, setBlock]
  · have hno : ∀ e ∈ es.toList, e.key ≠ pv p := fun e he hk => by
      obtain ⟨j, hj, rfl⟩ := List.getElem_of_mem he
      exact hin ⟨j, _, List.getElem?_eq_getElem hj, hk⟩
    have hf := E.out p hp hno
    refine ⟨.int .i64 0, clock, es.push ⟨pv p, .int .i64 0, clock⟩, clock + 1, ⟨fun e he => ?_, fun q hq hn => ?_, ?_, fun e he => ?_, ?_⟩, ⟨es.size, ⟨pv p, .int .i64 0, clock⟩, by simp, rfl, rfl⟩, fun w b hb => ?_⟩
    · rw [Array.toList_push, List.mem_append] at he
      rcases he with he | he
      · exact E.keys e he
      · simp at he; subst he
        exact ⟨p, hp, rfl, by rw [hf]⟩
    · refine E.out q hq (fun e he => hn e (by rw [Array.toList_push]; exact List.mem_append_left _ he))
    · rw [Array.toList_push, List.map_append]
      refine List.nodup_append.2 ⟨E.dist, by simp, fun a ha c hc e1 => ?_⟩
      simp at hc
      obtain ⟨x, hx, rfl⟩ := List.mem_map.1 ha
      exact hno x hx (by rw [e1, hc])
    · rw [Array.toList_push, List.mem_append] at he
      rcases he with he | he
      · have := E.old e he; omega
      · simp at he; subst he; simp
    · rw [Array.toList_push, List.map_append]
      refine List.nodup_append.2 ⟨E.nodup, by simp, fun a ha c hc e1 => ?_⟩
      simp at hc
      obtain ⟨x, hx, rfl⟩ := List.mem_map.1 ha
      have := E.old x hx
      omega
    · rcases pers_law.find w hkl es.toList E.hasKey with ⟨h1, h2⟩ | ⟨i, e, h1, h2, h3⟩
      · simp [Instr.mapEntry, run_underlying Try.underlying70, MapKept.run_getObj_map hb, pers_law.check w false hkl, h1, MapKept.run_setObj_map _ hb, Result.andThen, setBlock]
      · exact absurd h3 (hno e (List.mem_of_getElem? h2))

/-- the place of p is filled -/
theorem MapE.store {es : Array MapEntry} {clock : Nat} {f : Pers → Int} (E : MapE es clock f) {p : Pers} (z : Int) {j : Nat} {e0 : MapEntry} (hj : es.toList[j]? = some e0) (hk : e0.key = pv p) :
    ∃ es2, MapE es2 clock (fun q => if q = p then z else f q) ∧
      ∀ (w : World) (b : Nat), w.heap[b]? = some (.map es clock) → (Instr.entryStore 70 (.map (some b)) (goInt e0.born) (.int .i64 z)).run Try.prog w = .ok () (setBlock w b (.map es2 clock)) := by
  have hset : (es.modify j (fun e => { e with val := .int .i64 z })).toList = es.toList.set j { e0 with val := .int .i64 z } := by rw [Array.toList_modify, modify_eq_set _ _ _ _ hj]
  have hjl : j < es.toList.length := (List.getElem?_eq_some_iff.1 hj).1
  have hkm : ((es.toList.set j { e0 with val := .int .i64 z }).map (·.key)) = es.toList.map (·.key) := by
    rw [List.map_set]
    exact WideElems.set_self _ _ _ (by rw [List.getElem?_map, hj]; rfl)
  have hbm : ((es.toList.set j { e0 with val := .int .i64 z }).map (·.born)) = es.toList.map (·.born) := by
    rw [List.map_set]
    exact WideElems.set_self _ _ _ (by rw [List.getElem?_map, hj]; rfl)
  refine ⟨es.modify j (fun e => { e with val := .int .i64 z }), ⟨fun e he => ?_, fun q hq hn => ?_, ?_, fun e he => ?_, ?_⟩, fun w b hb => ?_⟩
  · rw [hset] at he
    obtain ⟨i, hi, rfl⟩ := List.getElem_of_mem he
    rw [List.length_set] at hi
    rw [List.getElem_set]
    by_cases e : j = i
    · rw [if_pos e]
      obtain ⟨q, hq, hqk, _⟩ := E.keys e0 (List.mem_of_getElem? hj)
      obtain rfl : q = p := pv_inj (by rw [← hqk, hk])
      exact ⟨q, hq, hk, by simp⟩
    · rw [if_neg e]
      obtain ⟨q, hq, hqk, hv⟩ := E.keys _ (List.getElem_mem hi)
      refine ⟨q, hq, hqk, ?_⟩
      have hne : q ≠ p := fun h => by
        subst h
        refine e ?_
        have n1 : (es.toList.map (·.key))[j]? = some (pv q) := by rw [List.getElem?_map, hj]; simp [hk]
        have n2 : (es.toList.map (·.key))[i]? = some (pv q) := by rw [List.getElem?_map, List.getElem?_eq_getElem hi]; exact congrArg some hqk
        have hlt : j < (es.toList.map (·.key)).length := (List.getElem?_eq_some_iff.1 n1).1
        exact (List.getElem?_inj hlt E.dist).1 (by rw [n1, n2])
      rw [if_neg hne]; exact hv
  · have hk2 : ∀ e ∈ es.toList, e.key ≠ pv q := fun e he hk' => by
      have : e.key ∈ (es.toList.set j { e0 with val := .int .i64 z }).map (·.key) := by rw [hkm]; exact List.mem_map_of_mem he
      obtain ⟨x, hx, hxk⟩ := List.mem_map.1 this
      exact hn x (by rw [hset]; exact hx) (by rw [hxk, hk'])
    have hne : q ≠ p := fun h => hk2 e0 (List.mem_of_getElem? hj) (by rw [hk, h])
    rw [if_neg hne]
    exact E.out q hq hk2
  · rw [hset, hkm]; exact E.dist
  · rw [hset] at he
    have : e.born ∈ (es.toList.set j { e0 with val := .int .i64 z }).map (·.born) := List.mem_map_of_mem he
    rw [hbm] at this
    obtain ⟨x, hx, hxb⟩ := List.mem_map.1 this
    rw [← hxb]; exact E.old x hx
  · rw [hset, hbm]; exact E.nodup
  · have hidx : es.findIdx? (fun e => ((e.born : Nat) : Int) == ((e0.born : Nat) : Int)) = some j := by
      rw [WideElems.findIdx_arr]
      exact WideElems.findIdx_born E.nodup hj
    simp [Instr.entryStore, MapKept.run_getObj_map hb, asInt, asIntOf, goInt, hidx, MapKept.run_setObj_map _ hb, Result.andThen, setBlock]

/-- block b is a map that answers f -/
def MapP (w : World) (b : Nat) (f : Pers → Int) : Prop := ∃ es clock, w.heap[b]? = some (.map es clock) ∧ MapE es clock f
theorem MapP.lt {w : World} {b : Nat} {f : Pers → Int} (h : MapP w b f) : b < w.heap.size := by
  obtain ⟨_, _, hb, _⟩ := h
  exact (Array.getElem?_eq_some_iff.1 hb).1
theorem MapP.kept {w w' : World} {b : Nat} {f : Pers → Int} {row : Option Nat} (h : MapP w b f) (hg : w.grownBy w' row) (hr : some b ≠ row) : MapP w' b f := by
  have hlt := h.lt
  obtain ⟨es, c, hb, E⟩ := h
  exact ⟨es, c, (hg.block b hlt hr).trans hb, E⟩
theorem MapP.below {w w' : World} {b : Nat} {f : Pers → Int} (h : MapP w b f) (hb : Below w.heap.size w w') : MapP w' b f :=
  h.kept (row := none) ⟨hb.os, hb.tape, hb.output, hb.size, fun k hk _ => hb.block k hk⟩ (by simp)
theorem MapP.made (w : World) : MapP (w.alloc (.map #[] 0)) w.heap.size (fun _ => 0) := ⟨#[], 0, (MapKept.heap_alloc w _).1, MapE.empty⟩
theorem MapP.look {w : World} {b : Nat} {f : Pers → Int} (h : MapP w b f) {p : Pers} (hp : persOk p) : (Instr.lookup 70 (.map (some b)) (pv p) false).run Try.prog w = .ok (.int .i64 (f p)) w := by
  obtain ⟨es, c, hb, E⟩ := h
  exact E.look hp hb
theorem MapP.congr {w : World} {b : Nat} {f g : Pers → Int} (h : MapP w b f) (hfg : ∀ p, f p = g p) : MapP w b g := by
  obtain rfl : f = g := funext hfg
  exact h
theorem grow_setBlock {w : World} {b : Nat} {es : Array MapEntry} {c : Nat} (hb : w.heap[b]? = some (.map es c)) (o : Obj) : w.grownBy (setBlock w b o) (some b) :=
  ⟨rfl, rfl, rfl, by simp [setBlock], fun i _ hi => heap_setBlock_other hb _ (fun e => hi (by rw [e]))⟩

end Go.Proofs.Ytdlpcoafbmhjjaa
