/- Contract of sumsOf of the program. -/
import Derived.Test.YtdlpcoafbmhjjaaValid
import Derived.Test.YtdlpcoafbmhjjaaCells
import Derived.Test.YtdlpcoafbmhjjaaInRnd
import Derived.Test.YtdlpcoafbmhjjaaOwnT2
import Derived.Test.YtdlpcoafbmhjjaaRegInv
import Derived.Deep.DeepCutAuto
import Derived.Outline
namespace Go.Proofs.Ytdlpcoafbmhjjaa
open Go.RowKit Go.Shelf

attribute [local go_sem] Oper.semAt_some

/-- a rectangle of small numbers -/
def rectS (t : List (List Int)) : Prop := 1 ≤ t.length ∧ t.length ≤ 4 ∧ 1 ≤ wid t 0 ∧ wid t 0 ≤ 4 ∧ ∀ i, i < t.length → wid t i = wid t 0 ∧ ∀ j, j < wid t 0 → 0 ≤ cel t i j ∧ cel t i j ≤ 1000
theorem tblOk.rectS {t : List (List Int)} (h : tblOk t) : rectS t := ⟨h.1, h.2.1, h.2.2.1, h.2.2.2.1, fun i hi => ⟨(h.2.2.2.2 i hi).1, fun j hj => by have := (h.2.2.2.2 i hi).2 j hj; omega⟩⟩

/-- the sums of the rows and of the columns -/
def rowsL (t : List (List Int)) : List Int := (List.range t.length).map (fun i => S (wid t 0) (cel t i))
def colsL (t : List (List Int)) : List Int := (List.range (wid t 0)).map (fun j => S t.length (fun i => cel t i j))

theorem rowsL_len (t : List (List Int)) : (rowsL t).length = t.length := by simp [rowsL]
theorem colsL_len (t : List (List Int)) : (colsL t).length = wid t 0 := by simp [colsL]
theorem rowsL_at {t : List (List Int)} {i : Nat} (hi : i < t.length) : (rowsL t)[i]?.getD 0 = S (wid t 0) (cel t i) := by simp [rowsL, hi]
theorem colsL_at {t : List (List Int)} {j : Nat} (hj : j < wid t 0) : (colsL t)[j]?.getD 0 = S t.length (fun i => cel t i j) := by simp [colsL, hj]
theorem ownI_put {W : World} {base : Nat} {v : Value} {zs : List Int} (h : OwnI W base v zs) {D : Nat} {x : Option (List Deferred)} {o : Obj} (hK : W.heap[D]? = some (.deferred x)) : OwnI (W.putObj D o) base v zs := ⟨ownsRow_putObj h.1 _ hK rfl, h.2⟩
/-- what sumsOf leaves -/
def SumsP (w : World) (t : List (List Int)) (e : Ending) (w' : World) : Prop :=
  ∃ vr vc, e = .returned (.tuple #[vr, vc]) ∧ OwnI w' w.heap.size vr (rowsL t) ∧ OwnI w' w.heap.size vc (colsL t) ∧ Below w.heap.size w w'

/-- the frame in the region that makes the two slices -/
def sumFr (b off h cap bx : Nat) (x4 x5 x8 x9 x10 x11 x12 x13 x14 x15 : Value) : Act := { tmps := #[.slice (some ⟨b, off, none⟩) h cap, .pointer (some ⟨bx, 0, none⟩), .slice none 0 0, .slice none 0 0, x4, x5, undef, undef, x8, x9, x10, x11, x12, x13, x14, x15, undef, undef, undef, undef, undef, undef, undef, undef, undef, undef, undef, undef, undef, undef, undef, undef, undef, undef, undef, undef, undef, undef, undef, undef, undef, undef, undef, undef, undef, undef, undef, undef], defers := [] }

/-- what stands when some operations of that region have been carried out -/
structure SumSt (w0 : World) (b off h cap bx wd c0 : Nat) (a0 : Option Addr) (bt : Nat → Bool) (w : World) (x4 x5 x8 x9 x10 x11 x12 x13 x14 x15 : Value) : Prop where
  f0 : bt 0 = true → x8 = .slice (some ⟨b, off, none⟩) h cap
  f1 : bt 1 = true → x9 = .int .i64 (h : Int)
  f2 : bt 2 = true → ∃ g, x10 = .slice (some ⟨g, 0, none⟩) h h ∧ w0.heap.size ≤ g ∧ w.rowIs g 3 h (fun _ => .int .i64 0)
  f3 : bt 3 = true → x11 = .slice (some ⟨b, off, none⟩) h cap
  f4 : bt 4 = true → x12 = .pointer (some ⟨b, off, none⟩)
  f5 : bt 5 = true → x13 = .slice a0 wd c0
  f6 : bt 6 = true → x14 = .int .i64 (wd : Int)
  f7 : bt 7 = true → ∃ g, x15 = .slice (some ⟨g, 0, none⟩) wd wd ∧ w0.heap.size ≤ g ∧ w.rowIs g 3 wd (fun _ => .int .i64 0)
  f8 : bt 8 = true → ∃ g, x4 = .pointer (some ⟨g, 0, none⟩) ∧ w0.heap.size ≤ g ∧ Boxed w g 42 (if bt 10 = true then x10 else .slice none 0 0)
  f9 : bt 9 = true → ∃ g, x5 = .pointer (some ⟨g, 0, none⟩) ∧ w0.heap.size ≤ g ∧ Boxed w g 42 (if bt 11 = true then x15 else .slice none 0 0)
  d1 : bt 2 = true → bt 7 = true → x10.ownBlock ≠ x15.ownBlock
  d2 : bt 8 = true → bt 9 = true → x4 ≠ x5
  e10 : bt 10 = true → bt 2 = true ∧ bt 8 = true
  e11 : bt 11 = true → bt 7 = true ∧ bt 9 = true
  bel : Below w0.heap.size w0 w

/-- what the region leaves -/
structure SumMade (w0 : World) (h wd : Nat) (x4 x5 : Value) (w : World) (br bc gr gc : Nat) : Prop where
  p4 : x4 = .pointer (some ⟨br, 0, none⟩)
  p5 : x5 = .pointer (some ⟨bc, 0, none⟩)
  b4 : Boxed w br 42 (.slice (some ⟨gr, 0, none⟩) h h)
  b5 : Boxed w bc 42 (.slice (some ⟨gc, 0, none⟩) wd wd)
  rr : w.rowIs gr 3 h (fun _ => .int .i64 0)
  rc : w.rowIs gc 3 wd (fun _ => .int .i64 0)
  l1 : w0.heap.size ≤ br
  l2 : w0.heap.size ≤ bc
  l3 : w0.heap.size ≤ gr
  l4 : w0.heap.size ≤ gc
  ne : gr ≠ gc
  bel : Below w0.heap.size w0 w

theorem SumSt.done {w0 : World} {b off h cap bx wd c0 : Nat} {a0 : Option Addr} {bt : Nat → Bool} {w : World} {x4 x5 x8 x9 x10 x11 x12 x13 x14 x15 : Value} (s : SumSt w0 b off h cap bx wd c0 a0 bt w x4 x5 x8 x9 x10 x11 x12 x13 x14 x15) (hb : ∀ k, k < 12 → bt k = true) :
    ∃ br bc gr gc, SumMade w0 h wd x4 x5 w br bc gr gc := by
  obtain ⟨gr, e10, l3, rr⟩ := s.f2 (hb 2 (by omega))
  obtain ⟨gc, e15, l4, rc⟩ := s.f7 (hb 7 (by omega))
  obtain ⟨br, e4, l1, b4⟩ := s.f8 (hb 8 (by omega))
  obtain ⟨bc, e5, l2, b5⟩ := s.f9 (hb 9 (by omega))
  rw [if_pos (hb 10 (by omega)), e10] at b4
  rw [if_pos (hb 11 (by omega)), e15] at b5
  have ne := s.d1 (hb 2 (by omega)) (hb 7 (by omega))
  rw [e10, e15] at ne
  exact ⟨br, bc, gr, gc, e4, e5, b4, b5, rr, rc, l1, l2, l3, l4, fun e => ne (by rw [e]; rfl), s.bel⟩

theorem SumSt.alloc {w0 : World} {b off h cap bx wd c0 : Nat} {a0 : Option Addr} {bt : Nat → Bool} {w : World} {x4 x5 x8 x9 x10 x11 x12 x13 x14 x15 : Value} (s : SumSt w0 b off h cap bx wd c0 a0 bt w x4 x5 x8 x9 x10 x11 x12 x13 x14 x15) (o : Obj) : SumSt w0 b off h cap bx wd c0 a0 bt (w.alloc o) x4 x5 x8 x9 x10 x11 x12 x13 x14 x15 := by
  constructor
  · exact s.f0
  · exact s.f1
  · intro h; obtain ⟨g, e, l, r⟩ := s.f2 h; exact ⟨g, e, l, r.of_block ((World.grownBy_alloc w o none).block g r.lt (by simp))⟩
  · exact s.f3
  · exact s.f4
  · exact s.f5
  · exact s.f6
  · intro h; obtain ⟨g, e, l, r⟩ := s.f7 h; exact ⟨g, e, l, r.of_block ((World.grownBy_alloc w o none).block g r.lt (by simp))⟩
  · intro h; obtain ⟨g, e, l, r⟩ := s.f8 h; exact ⟨g, e, l, r.alloc o⟩
  · intro h; obtain ⟨g, e, l, r⟩ := s.f9 h; exact ⟨g, e, l, r.alloc o⟩
  · exact s.d1
  · exact s.d2
  · exact s.e10
  · exact s.e11
  · exact s.bel.alloc s.bel.size o
theorem SumSt.s0 {w0 : World} {b off h cap bx wd c0 : Nat} {a0 : Option Addr} {bt : Nat → Bool} {w : World} {x4 x5 x8 x9 x10 x11 x12 x13 x14 x15 : Value} (s : SumSt w0 b off h cap bx wd c0 a0 bt w x4 x5 x8 x9 x10 x11 x12 x13 x14 x15) : SumSt w0 b off h cap bx wd c0 a0 (fun k => if k = 0 then true else bt k) w x4 x5 (.slice (some ⟨b, off, none⟩) h cap) x9 x10 x11 x12 x13 x14 x15 := by
  constructor
  · intro _; rfl
  · intro h; simpa using s.f1 (by simpa using h)
  · intro h; simpa using s.f2 (by simpa using h)
  · intro h; simpa using s.f3 (by simpa using h)
  · intro h; simpa using s.f4 (by simpa using h)
  · intro h; simpa using s.f5 (by simpa using h)
  · intro h; simpa using s.f6 (by simpa using h)
  · intro h; simpa using s.f7 (by simpa using h)
  · intro h; simpa using s.f8 (by simpa using h)
  · intro h; simpa using s.f9 (by simpa using h)
  · intro h1 h2; exact s.d1 (by simpa using h1) (by simpa using h2)
  · intro h1 h2; exact s.d2 (by simpa using h1) (by simpa using h2)
  · intro h; simpa using s.e10 (by simpa using h)
  · intro h; simpa using s.e11 (by simpa using h)
  · exact s.bel
theorem SumSt.s1 {w0 : World} {b off h cap bx wd c0 : Nat} {a0 : Option Addr} {bt : Nat → Bool} {w : World} {x4 x5 x8 x9 x10 x11 x12 x13 x14 x15 : Value} (s : SumSt w0 b off h cap bx wd c0 a0 bt w x4 x5 x8 x9 x10 x11 x12 x13 x14 x15) : SumSt w0 b off h cap bx wd c0 a0 (fun k => if k = 1 then true else bt k) w x4 x5 x8 (.int .i64 (h : Int)) x10 x11 x12 x13 x14 x15 := by
  constructor
  · intro h; simpa using s.f0 (by simpa using h)
  · intro _; rfl
  · intro h; simpa using s.f2 (by simpa using h)
  · intro h; simpa using s.f3 (by simpa using h)
  · intro h; simpa using s.f4 (by simpa using h)
  · intro h; simpa using s.f5 (by simpa using h)
  · intro h; simpa using s.f6 (by simpa using h)
  · intro h; simpa using s.f7 (by simpa using h)
  · intro h; simpa using s.f8 (by simpa using h)
  · intro h; simpa using s.f9 (by simpa using h)
  · intro h1 h2; exact s.d1 (by simpa using h1) (by simpa using h2)
  · intro h1 h2; exact s.d2 (by simpa using h1) (by simpa using h2)
  · intro h; simpa using s.e10 (by simpa using h)
  · intro h; simpa using s.e11 (by simpa using h)
  · exact s.bel
theorem SumSt.s3 {w0 : World} {b off h cap bx wd c0 : Nat} {a0 : Option Addr} {bt : Nat → Bool} {w : World} {x4 x5 x8 x9 x10 x11 x12 x13 x14 x15 : Value} (s : SumSt w0 b off h cap bx wd c0 a0 bt w x4 x5 x8 x9 x10 x11 x12 x13 x14 x15) : SumSt w0 b off h cap bx wd c0 a0 (fun k => if k = 3 then true else bt k) w x4 x5 x8 x9 x10 (.slice (some ⟨b, off, none⟩) h cap) x12 x13 x14 x15 := by
  constructor
  · intro h; simpa using s.f0 (by simpa using h)
  · intro h; simpa using s.f1 (by simpa using h)
  · intro h; simpa using s.f2 (by simpa using h)
  · intro _; rfl
  · intro h; simpa using s.f4 (by simpa using h)
  · intro h; simpa using s.f5 (by simpa using h)
  · intro h; simpa using s.f6 (by simpa using h)
  · intro h; simpa using s.f7 (by simpa using h)
  · intro h; simpa using s.f8 (by simpa using h)
  · intro h; simpa using s.f9 (by simpa using h)
  · intro h1 h2; exact s.d1 (by simpa using h1) (by simpa using h2)
  · intro h1 h2; exact s.d2 (by simpa using h1) (by simpa using h2)
  · intro h; simpa using s.e10 (by simpa using h)
  · intro h; simpa using s.e11 (by simpa using h)
  · exact s.bel
theorem SumSt.s4 {w0 : World} {b off h cap bx wd c0 : Nat} {a0 : Option Addr} {bt : Nat → Bool} {w : World} {x4 x5 x8 x9 x10 x11 x12 x13 x14 x15 : Value} (s : SumSt w0 b off h cap bx wd c0 a0 bt w x4 x5 x8 x9 x10 x11 x12 x13 x14 x15) : SumSt w0 b off h cap bx wd c0 a0 (fun k => if k = 4 then true else bt k) w x4 x5 x8 x9 x10 x11 (.pointer (some ⟨b, off, none⟩)) x13 x14 x15 := by
  constructor
  · intro h; simpa using s.f0 (by simpa using h)
  · intro h; simpa using s.f1 (by simpa using h)
  · intro h; simpa using s.f2 (by simpa using h)
  · intro h; simpa using s.f3 (by simpa using h)
  · intro _; rfl
  · intro h; simpa using s.f5 (by simpa using h)
  · intro h; simpa using s.f6 (by simpa using h)
  · intro h; simpa using s.f7 (by simpa using h)
  · intro h; simpa using s.f8 (by simpa using h)
  · intro h; simpa using s.f9 (by simpa using h)
  · intro h1 h2; exact s.d1 (by simpa using h1) (by simpa using h2)
  · intro h1 h2; exact s.d2 (by simpa using h1) (by simpa using h2)
  · intro h; simpa using s.e10 (by simpa using h)
  · intro h; simpa using s.e11 (by simpa using h)
  · exact s.bel
theorem SumSt.s5 {w0 : World} {b off h cap bx wd c0 : Nat} {a0 : Option Addr} {bt : Nat → Bool} {w : World} {x4 x5 x8 x9 x10 x11 x12 x13 x14 x15 : Value} (s : SumSt w0 b off h cap bx wd c0 a0 bt w x4 x5 x8 x9 x10 x11 x12 x13 x14 x15) : SumSt w0 b off h cap bx wd c0 a0 (fun k => if k = 5 then true else bt k) w x4 x5 x8 x9 x10 x11 x12 (.slice a0 wd c0) x14 x15 := by
  constructor
  · intro h; simpa using s.f0 (by simpa using h)
  · intro h; simpa using s.f1 (by simpa using h)
  · intro h; simpa using s.f2 (by simpa using h)
  · intro h; simpa using s.f3 (by simpa using h)
  · intro h; simpa using s.f4 (by simpa using h)
  · intro _; rfl
  · intro h; simpa using s.f6 (by simpa using h)
  · intro h; simpa using s.f7 (by simpa using h)
  · intro h; simpa using s.f8 (by simpa using h)
  · intro h; simpa using s.f9 (by simpa using h)
  · intro h1 h2; exact s.d1 (by simpa using h1) (by simpa using h2)
  · intro h1 h2; exact s.d2 (by simpa using h1) (by simpa using h2)
  · intro h; simpa using s.e10 (by simpa using h)
  · intro h; simpa using s.e11 (by simpa using h)
  · exact s.bel
theorem SumSt.s6 {w0 : World} {b off h cap bx wd c0 : Nat} {a0 : Option Addr} {bt : Nat → Bool} {w : World} {x4 x5 x8 x9 x10 x11 x12 x13 x14 x15 : Value} (s : SumSt w0 b off h cap bx wd c0 a0 bt w x4 x5 x8 x9 x10 x11 x12 x13 x14 x15) : SumSt w0 b off h cap bx wd c0 a0 (fun k => if k = 6 then true else bt k) w x4 x5 x8 x9 x10 x11 x12 x13 (.int .i64 (wd : Int)) x15 := by
  constructor
  · intro h; simpa using s.f0 (by simpa using h)
  · intro h; simpa using s.f1 (by simpa using h)
  · intro h; simpa using s.f2 (by simpa using h)
  · intro h; simpa using s.f3 (by simpa using h)
  · intro h; simpa using s.f4 (by simpa using h)
  · intro h; simpa using s.f5 (by simpa using h)
  · intro _; rfl
  · intro h; simpa using s.f7 (by simpa using h)
  · intro h; simpa using s.f8 (by simpa using h)
  · intro h; simpa using s.f9 (by simpa using h)
  · intro h1 h2; exact s.d1 (by simpa using h1) (by simpa using h2)
  · intro h1 h2; exact s.d2 (by simpa using h1) (by simpa using h2)
  · intro h; simpa using s.e10 (by simpa using h)
  · intro h; simpa using s.e11 (by simpa using h)
  · exact s.bel
theorem SumSt.s2 {w0 : World} {b off h cap bx wd c0 : Nat} {a0 : Option Addr} {bt : Nat → Bool} {w : World} {x4 x5 x8 x9 x10 x11 x12 x13 x14 x15 : Value} (s : SumSt w0 b off h cap bx wd c0 a0 bt w x4 x5 x8 x9 x10 x11 x12 x13 x14 x15) (hn : bt 2 = false) : SumSt w0 b off h cap bx wd c0 a0 (fun k => if k = 2 then true else bt k) (w.alloc (.cells (madeCells #[.int .i64 0] h) 3)) x4 x5 x8 x9 (.slice (some ⟨w.heap.size, 0, none⟩) h h) x11 x12 x13 x14 x15 := by
  have s' := s.alloc (.cells (madeCells #[.int .i64 0] h) 3)
  have h10 : bt 10 = false := by cases e : bt 10 with | false => rfl | true => have := (s.e10 e).1; rw [hn] at this; cases this
  constructor
  · intro h; simpa using s'.f0 (by simpa using h)
  · intro h; simpa using s'.f1 (by simpa using h)
  · intro _; exact ⟨w.heap.size, rfl, s.bel.size, World.rowIs_made w (.int .i64 0) h 3⟩
  · intro h; simpa using s'.f3 (by simpa using h)
  · intro h; simpa using s'.f4 (by simpa using h)
  · intro h; simpa using s'.f5 (by simpa using h)
  · intro h; simpa using s'.f6 (by simpa using h)
  · intro h; simpa using s'.f7 (by simpa using h)
  · intro h; have := s'.f8 (by simpa using h); simpa [h10] using this
  · intro h; simpa using s'.f9 (by simpa using h)
  · intro _ h2; obtain ⟨g, e, _, r⟩ := s.f7 (by simpa using h2); have := r.lt; rw [e]; simp [Value.ownBlock]; omega
  · intro h1 h2; exact s'.d2 (by simpa using h1) (by simpa using h2)
  · intro h; rw [show (if 10 = 2 then true else bt 10) = bt 10 from rfl, h10] at h; cases h
  · intro h; simpa using s'.e11 (by simpa using h)
  · exact s'.bel
theorem SumSt.s7 {w0 : World} {b off h cap bx wd c0 : Nat} {a0 : Option Addr} {bt : Nat → Bool} {w : World} {x4 x5 x8 x9 x10 x11 x12 x13 x14 x15 : Value} (s : SumSt w0 b off h cap bx wd c0 a0 bt w x4 x5 x8 x9 x10 x11 x12 x13 x14 x15) (hn : bt 7 = false) : SumSt w0 b off h cap bx wd c0 a0 (fun k => if k = 7 then true else bt k) (w.alloc (.cells (madeCells #[.int .i64 0] wd) 3)) x4 x5 x8 x9 x10 x11 x12 x13 x14 (.slice (some ⟨w.heap.size, 0, none⟩) wd wd) := by
  have s' := s.alloc (.cells (madeCells #[.int .i64 0] wd) 3)
  have h11 : bt 11 = false := by cases e : bt 11 with | false => rfl | true => have := (s.e11 e).1; rw [hn] at this; cases this
  constructor
  · intro h; simpa using s'.f0 (by simpa using h)
  · intro h; simpa using s'.f1 (by simpa using h)
  · intro h; simpa using s'.f2 (by simpa using h)
  · intro h; simpa using s'.f3 (by simpa using h)
  · intro h; simpa using s'.f4 (by simpa using h)
  · intro h; simpa using s'.f5 (by simpa using h)
  · intro h; simpa using s'.f6 (by simpa using h)
  · intro _; exact ⟨w.heap.size, rfl, s.bel.size, World.rowIs_made w (.int .i64 0) wd 3⟩
  · intro h; simpa using s'.f8 (by simpa using h)
  · intro h; have := s'.f9 (by simpa using h); simpa [h11] using this
  · intro h1 _; obtain ⟨g, e, _, r⟩ := s.f2 (by simpa using h1); have := r.lt; rw [e]; simp [Value.ownBlock]; omega
  · intro h1 h2; exact s'.d2 (by simpa using h1) (by simpa using h2)
  · intro h; simpa using s'.e10 (by simpa using h)
  · intro h; rw [show (if 11 = 7 then true else bt 11) = bt 11 from rfl, h11] at h; cases h
  · exact s'.bel
theorem SumSt.s8 {w0 : World} {b off h cap bx wd c0 : Nat} {a0 : Option Addr} {bt : Nat → Bool} {w : World} {x4 x5 x8 x9 x10 x11 x12 x13 x14 x15 : Value} (s : SumSt w0 b off h cap bx wd c0 a0 bt w x4 x5 x8 x9 x10 x11 x12 x13 x14 x15) (hn : bt 8 = false) : SumSt w0 b off h cap bx wd c0 a0 (fun k => if k = 8 then true else bt k) (w.alloc (.cells #[.slice none 0 0] 42)) (.pointer (some ⟨w.heap.size, 0, none⟩)) x5 x8 x9 x10 x11 x12 x13 x14 x15 := by
  have s' := s.alloc (.cells #[.slice none 0 0] 42)
  have h10 : bt 10 = false := by cases e : bt 10 with | false => rfl | true => have := (s.e10 e).2; rw [hn] at this; cases this
  constructor
  · intro h; simpa using s'.f0 (by simpa using h)
  · intro h; simpa using s'.f1 (by simpa using h)
  · intro h; simpa using s'.f2 (by simpa using h)
  · intro h; simpa using s'.f3 (by simpa using h)
  · intro h; simpa using s'.f4 (by simpa using h)
  · intro h; simpa using s'.f5 (by simpa using h)
  · intro h; simpa using s'.f6 (by simpa using h)
  · intro h; simpa using s'.f7 (by simpa using h)
  · intro _; exact ⟨w.heap.size, rfl, s.bel.size, by simpa [h10] using Boxed.new w 42 (.slice none 0 0)⟩
  · intro h; simpa using s'.f9 (by simpa using h)
  · intro h1 h2; exact s'.d1 (by simpa using h1) (by simpa using h2)
  · intro _ h2; obtain ⟨g, e, _, r⟩ := s.f9 (by simpa using h2); have := r.lt; rw [e]; intro q; cases q; omega
  · intro h; rw [show (if 10 = 8 then true else bt 10) = bt 10 from rfl, h10] at h; cases h
  · intro h; simpa using s'.e11 (by simpa using h)
  · exact s'.bel
theorem SumSt.s9 {w0 : World} {b off h cap bx wd c0 : Nat} {a0 : Option Addr} {bt : Nat → Bool} {w : World} {x4 x5 x8 x9 x10 x11 x12 x13 x14 x15 : Value} (s : SumSt w0 b off h cap bx wd c0 a0 bt w x4 x5 x8 x9 x10 x11 x12 x13 x14 x15) (hn : bt 9 = false) : SumSt w0 b off h cap bx wd c0 a0 (fun k => if k = 9 then true else bt k) (w.alloc (.cells #[.slice none 0 0] 42)) x4 (.pointer (some ⟨w.heap.size, 0, none⟩)) x8 x9 x10 x11 x12 x13 x14 x15 := by
  have s' := s.alloc (.cells #[.slice none 0 0] 42)
  have h11 : bt 11 = false := by cases e : bt 11 with | false => rfl | true => have := (s.e11 e).2; rw [hn] at this; cases this
  constructor
  · intro h; simpa using s'.f0 (by simpa using h)
  · intro h; simpa using s'.f1 (by simpa using h)
  · intro h; simpa using s'.f2 (by simpa using h)
  · intro h; simpa using s'.f3 (by simpa using h)
  · intro h; simpa using s'.f4 (by simpa using h)
  · intro h; simpa using s'.f5 (by simpa using h)
  · intro h; simpa using s'.f6 (by simpa using h)
  · intro h; simpa using s'.f7 (by simpa using h)
  · intro h; simpa using s'.f8 (by simpa using h)
  · intro _; exact ⟨w.heap.size, rfl, s.bel.size, by simpa [h11] using Boxed.new w 42 (.slice none 0 0)⟩
  · intro h1 h2; exact s'.d1 (by simpa using h1) (by simpa using h2)
  · intro h1 _; obtain ⟨g, e, _, r⟩ := s.f8 (by simpa using h1); have := r.lt; rw [e]; intro q; cases q; omega
  · intro h; simpa using s'.e10 (by simpa using h)
  · intro h; rw [show (if 11 = 9 then true else bt 11) = bt 11 from rfl, h11] at h; cases h
  · exact s'.bel
theorem row_not_box {w : World} {g k n : Nat} {f : Nat → Value} {v : Value} (r : w.rowIs g 3 n f) (x : Boxed w k 42 v) : g ≠ k := by
  intro e
  subst e
  obtain ⟨c, hc, _⟩ := r
  have := (show w.heap[g]? = _ from x).symm.trans hc
  simp at this
theorem SumSt.s10 {w0 : World} {b off h cap bx wd c0 : Nat} {a0 : Option Addr} {bt : Nat → Bool} {w : World} {x4 x5 x8 x9 x10 x11 x12 x13 x14 x15 : Value} (s : SumSt w0 b off h cap bx wd c0 a0 bt w x4 x5 x8 x9 x10 x11 x12 x13 x14 x15) {g4 : Nat} (e4 : x4 = .pointer (some ⟨g4, 0, none⟩)) (b2 : bt 2 = true) (b8 : bt 8 = true) : SumSt w0 b off h cap bx wd c0 a0 (fun k => if k = 10 then true else bt k) (w.setCell ⟨g4, 0, none⟩ x10) x4 x5 x8 x9 x10 x11 x12 x13 x14 x15 := by
  obtain ⟨g, e, l, bx4⟩ := s.f8 b8
  obtain rfl : g4 = g := by rw [e4] at e; simpa using e
  have hg := grownBy_setCell' w g4 x10
  constructor
  · intro h; exact s.f0 (by simpa using h)
  · intro h; exact s.f1 (by simpa using h)
  · intro h; obtain ⟨k, e, l, r⟩ := s.f2 b2; exact ⟨k, e, l, r.of_block (hg.block k r.lt (by have := row_not_box r bx4; simp; omega))⟩
  · intro h; exact s.f3 (by simpa using h)
  · intro h; exact s.f4 (by simpa using h)
  · intro h; exact s.f5 (by simpa using h)
  · intro h; exact s.f6 (by simpa using h)
  · intro h; obtain ⟨k, e, l, r⟩ := s.f7 (by simpa using h); exact ⟨k, e, l, r.of_block (hg.block k r.lt (by have := row_not_box r bx4; simp; omega))⟩
  · intro _; exact ⟨g4, e4, l, by simpa using bx4.set x10⟩
  · intro h
    obtain ⟨k, e, l, r⟩ := s.f9 (by simpa using h)
    have hne := s.d2 b8 (by simpa using h)
    rw [e4, e] at hne
    refine ⟨k, e, l, ?_⟩
    have := r.kept hg (by intro q; apply hne; cases q <;> rfl)
    simpa using this
  · intro h1 h2; exact s.d1 (by simpa using h1) (by simpa using h2)
  · intro h1 h2; exact s.d2 (by simpa using h1) (by simpa using h2)
  · intro _; exact ⟨by simpa using b2, by simpa using b8⟩
  · intro h; simpa using s.e11 (by simpa using h)
  · exact s.bel.setCell (p := ⟨g4, 0, none⟩) l _
theorem SumSt.s11 {w0 : World} {b off h cap bx wd c0 : Nat} {a0 : Option Addr} {bt : Nat → Bool} {w : World} {x4 x5 x8 x9 x10 x11 x12 x13 x14 x15 : Value} (s : SumSt w0 b off h cap bx wd c0 a0 bt w x4 x5 x8 x9 x10 x11 x12 x13 x14 x15) {g5 : Nat} (e5 : x5 = .pointer (some ⟨g5, 0, none⟩)) (b7 : bt 7 = true) (b9 : bt 9 = true) : SumSt w0 b off h cap bx wd c0 a0 (fun k => if k = 11 then true else bt k) (w.setCell ⟨g5, 0, none⟩ x15) x4 x5 x8 x9 x10 x11 x12 x13 x14 x15 := by
  obtain ⟨g, e, l, bx5⟩ := s.f9 b9
  obtain rfl : g5 = g := by rw [e5] at e; simpa using e
  have hg := grownBy_setCell' w g5 x15
  constructor
  · intro h; exact s.f0 (by simpa using h)
  · intro h; exact s.f1 (by simpa using h)
  · intro h; obtain ⟨k, e, l, r⟩ := s.f2 (by simpa using h); exact ⟨k, e, l, r.of_block (hg.block k r.lt (by have := row_not_box r bx5; simp; omega))⟩
  · intro h; exact s.f3 (by simpa using h)
  · intro h; exact s.f4 (by simpa using h)
  · intro h; exact s.f5 (by simpa using h)
  · intro h; exact s.f6 (by simpa using h)
  · intro h; obtain ⟨k, e, l, r⟩ := s.f7 b7; exact ⟨k, e, l, r.of_block (hg.block k r.lt (by have := row_not_box r bx5; simp; omega))⟩
  · intro h
    obtain ⟨k, e, l, r⟩ := s.f8 (by simpa using h)
    have hne := s.d2 (by simpa using h) b9
    rw [e5, e] at hne
    refine ⟨k, e, l, ?_⟩
    have := r.kept hg (by intro q; apply hne; cases q <;> rfl)
    simpa using this
  · intro _; exact ⟨g5, e5, l, by simpa using bx5.set x15⟩
  · intro h1 h2; exact s.d1 (by simpa using h1) (by simpa using h2)
  · intro h1 h2; exact s.d2 (by simpa using h1) (by simpa using h2)
  · intro h; simpa using s.e10 (by simpa using h)
  · intro _; exact ⟨by simpa using b7, by simpa using b9⟩
  · exact s.bel.setCell (p := ⟨g5, 0, none⟩) l _

set_option maxRecDepth 100000 in
set_option maxHeartbeats 2000000 in
theorem iSumsOf (w : World) (P : Nat → Prop) (v : Value) (t : List (List Int)) (h : IntSS w P v t) (ht : rectS t) :
    Calls Try.prog 36 #[v] w (SumsP w t) := by
  have HT := Lib.hid h
  obtain ⟨a, cap, rfl, _, hr⟩ := h
  obtain ⟨t1, t2, t3, t4, t5⟩ := ht
  have T5 := Lib.hid t5
  obtain ⟨b, off, a0, c0, rfl, _, hc0, _⟩ := hr.rowW (i := 0) (by omega)
  rw [Nat.add_zero] at hc0
  clear hr t5
  have hmk1 := run_make_row' (P := Try.prog) 42 3 (.int .i64 0) 8 Try.underlying42 Try.info_int rfl .i64 .i64 t.length (by omega) (by omega)
  have hmk2 := run_make_row' (P := Try.prog) 42 3 (.int .i64 0) 8 Try.underlying42 Try.info_int rfl .i64 .i64 (wid t 0) (by omega) (by omega)
  have hz : (0 : Int) < (t.length : Int) := by omega
  have hz2 : 0 < t.length := by omega
  refine (callsIn_wide (n := 6)).1 ?_
  refine callsIn_of_wp_marks Try.func36 rfl trivial ?_ rfl
  simp only [Try.ntmps36, List.size_toArray, List.length_cons, List.length_nil, Nat.reduceAdd, Nat.reduceSub, Array.replicate_succ, Array.replicate_zero, List.push_toArray, List.append_toArray, List.nil_append, List.cons_append]
  refine wpIn_noFail (wpIn_wide.2 ?_)
  go_wp2_with fail
  have ha0 : (w.alloc (.cells #[.slice (some ⟨b, off, none⟩) t.length cap] 29)).cell? ⟨w.heap.size, 0, none⟩ = some (.slice (some ⟨b, off, none⟩) t.length cap) := (Boxed.new w _ _).cell
  have hb0 := (World.grownBy_alloc w (.cells #[.slice (some ⟨b, off, none⟩) t.length cap] 29) none).cell hc0 (by simp)
  generalize hW0 : w.alloc (.cells #[.slice (some ⟨b, off, none⟩) t.length cap] 29) = W0 at *
  refine region_inv (by kernel_rfl) (fun bt a w' => ∃ x4 x5 x8 x9 x10 x11 x12 x13 x14 x15, a = sumFr b off t.length cap w.heap.size x4 x5 x8 x9 x10 x11 x12 x13 x14 x15 ∧ SumSt W0.drew b off t.length cap w.heap.size (wid t 0) c0 a0 bt w' x4 x5 x8 x9 x10 x11 x12 x13 x14 x15) ?h0 ?done (all_listed (early_of (by kernel_rfl))) ?step
  case h0 =>
    refine ⟨undef, undef, undef, undef, undef, undef, undef, undef, undef, undef, rfl, ?_⟩
    constructor
    all_goals first | exact Below.refl _ _ | (intro h; cases h) | (intro h1 h2; cases h1)
  case done =>
    rintro bt a' w' ⟨x4, x5, x8, x9, x10, x11, x12, x13, x14, x15, rfl, st⟩ hb
    obtain ⟨br, bc, gr, gc, sm⟩ := st.done (fun k hk => hb k (by simpa using hk))
    obtain ⟨rfl, rfl, b4, b5, rr, rc, l1, l2, l3, l4, hne, bel⟩ := sm
    clear st hb
    have hW0s : W0.heap.size = w.heap.size + 1 := by rw [← hW0]; simp
    have hB0 : Below w.heap.size w w' := by
      have h1 : Below w.heap.size w W0 := by rw [← hW0]; exact (Below.refl _ w).alloc (Nat.le_refl _) _
      exact h1.trans ((show Below W0.heap.size W0 w' from ⟨bel.os, bel.tape, bel.output, bel.size, bel.block⟩).mono h1.size)
    have bT : Boxed w' w.heap.size 29 (.slice (some ⟨b, off, none⟩) t.length cap) := by
      have : Boxed W0 w.heap.size 29 (.slice (some ⟨b, off, none⟩) t.length cap) := by rw [← hW0]; exact Boxed.new w _ _
      exact (bel.block _ (by show w.heap.size < W0.heap.size; omega)).trans this
    replace l1 : w.heap.size + 1 ≤ br := by rw [← hW0s]; exact l1
    replace l2 : w.heap.size + 1 ≤ bc := by rw [← hW0s]; exact l2
    replace l3 : w.heap.size + 1 ≤ gr := by rw [← hW0s]; exact l3
    replace l4 : w.heap.size + 1 ≤ gc := by rw [← hW0s]; exact l4
    have kT := bT.cell
    clear bel hb0 ha0 hmk1 hmk2
    unfold sumFr
    go_wp2_with fail
    refine (callsIn_wide.1 (cellsOf_in Fence.wide 6 trivial rfl _ _ _ _)).mono ?_
    rintro e w2 ⟨rfl, rfl⟩
    go_wp2_with fail
    refine (wpIn_wide (n := 6)).1 ?_
    have hB1 : Below w.heap.size w (w'.alloc (.cells #[.slice (some ⟨b, off, none⟩) t.length cap] 29)) := hB0.alloc hB0.size _
    have bN := Boxed.new w' 29 (.slice (some ⟨b, off, none⟩) t.length cap)
    have HA2 : IntSS (w'.alloc (.cells #[.slice (some ⟨b, off, none⟩) t.length cap] 29)) (· < w.heap.size) (.slice (some ⟨b, off, none⟩) t.length cap) t := (HT.out.mono (fun _ _ h => h)).below hB1
    have LT : Hid (lensT t) := ⟨by omega, fun i => by
      by_cases hi : i < t.length
      · rw [(T5.out i hi).1]; omega
      · unfold wid; rw [List.getElem?_eq_none (by omega)]; simp⟩
    have hcl : (cellsN t).length ≤ 16 := cellsN_le t2 (fun i hi => by rw [(T5.out i hi).1]; exact t4)
    have hws := hB0.size
    refine wpIn_rangeFunc_ownG rfl (by omega) (gf := 47) (lb := #[.pointer (some ⟨w'.heap.size, 0, none⟩)]) rfl trivial (enters_of Try.func47 (by kernel_rfl) rfl)
      (cells_stops Fence.wide (6 - 1) trivial rfl (by omega) w'.heap.size w.heap.size _ t LT.out _ (by simp) bN.cell HA2) belowK_t (belowK_b (by simp; omega)) (Below.refl _ _) (fun _ => rfl)
      (fun pre W => (Boxed W w.heap.size 29 (.slice (some ⟨b, off, none⟩) t.length cap) ∧ Boxed W br 42 (.slice (some ⟨gr, 0, none⟩) t.length t.length) ∧ Boxed W bc 42 (.slice (some ⟨gc, 0, none⟩) (wid t 0) (wid t 0)) ∧ W.rowIs gr 3 t.length (fun i => .int .i64 (accR t (pre.map Subtype.val) i)) ∧ W.rowIs gc 3 (wid t 0) (fun j => .int .i64 (accC t (pre.map Subtype.val) j))) ∧ Below w.heap.size w W)
      (fun _ _ _ => False)
      (OwnFrom.and (Own.from (fun s A B row hs hg hr => ⟨boxKept hs.1 hg hr, boxKept hs.2.1 hg hr, boxKept hs.2.2.1 hg hr, rowKept hs.2.2.2.1 hg hr, rowKept hs.2.2.2.2 hg hr⟩) _) (ownFrom_below (Nat.le_refl _) (by simp; omega)))
      (fun _ _ _ _ _ hs _ _ => hs)
      ⟨⟨bT.alloc _, b4.alloc _, b5.alloc _, (rr.of_block ((World.grownBy_alloc w' _ none).block gr rr.lt (by simp))), (rc.of_block ((World.grownBy_alloc w' _ none).block gc rc.lt (by simp)))⟩, hB1⟩
      (fun x => { tmps := #[.slice (some ⟨b, off, none⟩) t.length cap, .pointer (some ⟨w.heap.size, 0, none⟩), .slice none 0 0, .slice none 0 0, .pointer (some ⟨br, 0, none⟩), .pointer (some ⟨bc, 0, none⟩), .int .i64 (x.1.1 : Int), .int .i64 (x.1.2 : Int), x8, x9, x10, x11, x12, x13, x14, x15, .slice (some ⟨b, off, none⟩) t.length cap, .func (.func 47) #[] #[.pointer (some ⟨w'.heap.size, 0, none⟩)], .int .i64 (x.1.1 : Int), .int .i64 (x.1.2 : Int), undef, undef, undef, undef, undef, undef, undef, undef, undef, undef, undef, undef, undef, undef, undef, undef, undef, undef, undef, undef, undef, undef, undef, undef, undef, undef, undef, undef], defers := [] }) ?assign ?body ?done ?stop
    case assign =>
      intro l x W K hK
      gi_wp2
      exact hK
    case body =>
      rintro l pre ⟨⟨i, j⟩, hi, hj⟩ W ⟨⟨kT, kR, kC, rR, rC⟩, hB⟩ hlen
      simp only at hi hj
      have hw : wid t i = wid t 0 := (T5.out i hi).1
      rw [hw] at hj
      obtain ⟨b1, o1, b2, o2, c1, e, _, hc1, hc2⟩ := (HT.out.below hB).at hi (j := j) (by rw [hw]; exact hj)
      cases e
      rw [hw] at hc1
      have kc1 := kT.cell
      have kc2 := kR.cell
      have kc3 := kC.cell
      have cR := rR.cell hi
      have fR := rR.frozen i
      have cC := rC.cell hj
      have fC := rC.frozen j
      have hpm : ∀ p ∈ pre.map Subtype.val, 0 ≤ cel t p.1 p.2 ∧ cel t p.1 p.2 ≤ 1000 := by
        intro p hp
        obtain ⟨⟨q, hq1, hq2⟩, _, rfl⟩ := List.mem_map.1 hp
        exact (T5.out q.1 hq1).2 q.2 (by rw [← (T5.out q.1 hq1).1]; exact hq2)
      have r1 := accR_bd (i := i) hpm
      have r2 := accC_bd (j := j) hpm
      rw [List.length_map] at r1 r2
      have hz1 := (T5.out i hi).2 j hj
      have HX : Hid ((pre ++ [(⟨(i, j), hi, by rw [hw]; exact hj⟩ : Cel t)]).map Subtype.val = pre.map Subtype.val ++ [(i, j)]) := by simp [Hid]
      obtain ⟨r11, r12⟩ := r1
      obtain ⟨r21, r22⟩ := r2
      obtain ⟨z1, z2⟩ := hz1
      have i1 : (i : Int) < (t.length : Int) := by omega
      have i2 : (j : Int) < (wid t 0 : Int) := by omega
      obtain ⟨ra, hra⟩ : ∃ ra, accR t (pre.map Subtype.val) i = ra := ⟨_, rfl⟩
      obtain ⟨ca, hca⟩ : ∃ ca, accC t (pre.map Subtype.val) j = ca := ⟨_, rfl⟩
      obtain ⟨zc, hzc⟩ : ∃ zc, cel t i j = zc := ⟨_, rfl⟩
      simp only [hra] at cR
      simp only [hca] at cC
      rw [hra] at r11 r12
      rw [hca] at r21 r22
      rw [hzc] at hc2 z1 z2
      have HRA := Lib.hid hra
      have HCA := Lib.hid hca
      have HZC := Lib.hid hzc
      have e1 := IntWalk.i64_in (ra + zc) (by omega)
      have e2 := IntWalk.i64_in (ca + zc) (by omega)
      clear hra hca hzc hpm
      gi_wp2
      refine tail_round 13 (by kernel_rfl) (by kernel_rfl) (by kernel_rfl) (by rintro ⟨_, _, h⟩; exact h.elim) ?_
      simp only [List.take_succ_cons, List.take_zero, List.drop_succ_cons, List.drop_zero]
      repeat still_step
      try refine wpStill_nil ?_
      go_wp2
      have hg1 : W.grownBy (W.setCell ⟨gr, i, none⟩ (.int .i64 (ra + zc))).drew (some gr) := grow_drew (grow_set (grow_refl _ _) _ _)
      have nT : gr ≠ w.heap.size := by omega
      have nR : gr ≠ br := row_not_box rR kR
      have nC : gr ≠ bc := row_not_box rR kC
      have mT : gc ≠ w.heap.size := by omega
      have mR : gc ≠ br := row_not_box rC kR
      have mC : gc ≠ bc := row_not_box rC kC
      have kT1 := kT.kept hg1 (by simp; omega)
      have kR1 := kR.kept hg1 (by simp; omega)
      have kC1 := kC.kept hg1 (by simp; omega)
      have rC1 := rC.of_block (hg1.block gc rC.lt (by simp; omega))
      have rR1 : (W.setCell ⟨gr, i, none⟩ (.int .i64 (ra + zc))).drew.rowIs gr 3 t.length (fun k => if k = i then .int .i64 (ra + zc) else .int .i64 (accR t (pre.map Subtype.val) k)) := rR.set i (.int .i64 (ra + zc))
      have hB1' : Below w.heap.size W (W.setCell ⟨gr, i, none⟩ (.int .i64 (ra + zc))).drew := ((Below.refl _ W).setCell (p := ⟨gr, i, none⟩) (by simp; omega) _).drew
      have KO1 : KeepsOthers W (W.setCell ⟨gr, i, none⟩ (.int .i64 (ra + zc))).drew := (KeepsOthers.setCell _ _ _).trans (KeepsOthers.drew _)
      generalize (W.setCell ⟨gr, i, none⟩ (.int .i64 (ra + zc))).drew = W1 at *
      obtain ⟨b1', o1', b2', o2', c1', e', _, hd1, hd2⟩ := (HT.out.below (hB.trans hB1')).at hi (j := j) (by rw [hw]; exact hj)
      cases e'
      rw [hw] at hd1
      rw [HZC.out] at hd2
      have kd1 := kT1.cell
      have kd3 := kC1.cell
      have dC := rC1.cell hj
      simp only [HCA.out] at dC
      have gC := rC1.frozen j
      clear kc1 kc2 kc3 cR fR cC fC hc1 hc2
      refine tail_round 13 (by kernel_rfl) (by kernel_rfl) (by kernel_rfl) (by rintro ⟨_, _, h⟩; exact h.elim) ?_
      simp only [List.take_succ_cons, List.take_zero, List.drop_succ_cons, List.drop_zero]
      repeat still_step
      try refine wpStill_nil ?_
      go_wp2
      have hg2 : W1.grownBy (W1.setCell ⟨gc, j, none⟩ (.int .i64 (ca + zc))).drew (some gc) := grow_drew (grow_set (grow_refl _ _) _ _)
      have hB2' : Below w.heap.size W1 (W1.setCell ⟨gc, j, none⟩ (.int .i64 (ca + zc))).drew := ((Below.refl _ W1).setCell (p := ⟨gc, j, none⟩) (by simp; omega) _).drew
      have rC2 : (W1.setCell ⟨gc, j, none⟩ (.int .i64 (ca + zc))).drew.rowIs gc 3 (wid t 0) (fun k => if k = j then .int .i64 (ca + zc) else .int .i64 (accC t (pre.map Subtype.val) k)) := rC1.set j (.int .i64 (ca + zc))
      have rR2 := rR1.of_block (hg2.block gr rR1.lt (by simp; omega))
      refine ⟨(KO1.trans ((KeepsOthers.setCell _ _ _).trans (KeepsOthers.drew _))).from _, hB1'.trans hB2', ⟨kT1.kept hg2 (by simp; omega), kR1.kept hg2 (by simp; omega), kC1.kept hg2 (by simp; omega), ?_, ?_⟩, (hB.trans hB1').trans hB2'⟩
      · refine rR2.congr (fun k hk => ?_)
        rw [HX.out, accR_snoc]
        by_cases e : k = i
        · subst e; rw [if_pos rfl, if_pos rfl, HRA.out, HZC.out]
        · rw [if_neg e, if_neg (fun h => e h.symm), Int.add_zero]
      · refine rC2.congr (fun k hk => ?_)
        rw [HX.out, accC_snoc]
        by_cases e : k = j
        · subst e; rw [if_pos rfl, if_pos rfl, HCA.out, HZC.out]
        · rw [if_neg e, if_neg (fun h => e h.symm), Int.add_zero]
    case done =>
      rintro D ys W hD hys ⟨⟨kT, kR, kC, rR, rC⟩, hB⟩ hK
      have kc2 := kR.cell
      have kc3 := kC.cell
      have OR : Hid (OwnI W w.heap.size (.slice (some ⟨gr, 0, none⟩) t.length t.length) (rowsL t)) := by
        have h1 : W.rowIs gr 3 (rowsL t).length (fun j => .int .i64 ((rowsL t)[j]?.getD 0)) := by
          rw [rowsL_len]
          refine rR.congr (fun i hi => ?_)
          rw [rowsL_at hi, hys]
          unfold cellsN
          rw [accR_to, if_pos hi, (T5.out i hi).1]
        have := owns_of_rowIs (base := w.heap.size) h1 (by omega) (by rw [rowsL_len]; unfold maxLen; omega)
        refine ⟨by rw [rowsL_len] at this ⊢; exact this, by simp⟩
      have OC : Hid (OwnI W w.heap.size (.slice (some ⟨gc, 0, none⟩) (wid t 0) (wid t 0)) (colsL t)) := by
        have h1 : W.rowIs gc 3 (colsL t).length (fun j => .int .i64 ((colsL t)[j]?.getD 0)) := by
          rw [colsL_len]
          refine rC.congr (fun j hj => ?_)
          rw [colsL_at hj, hys]
          unfold cellsN
          rw [accC_to _ _ _ (fun i hi => by rw [(T5.out i hi).1]; exact hj)]
        have := owns_of_rowIs (base := w.heap.size) h1 (by omega) (by rw [colsL_len]; unfold maxLen; omega)
        refine ⟨by rw [colsL_len] at this ⊢; exact this, by simp⟩
      clear hys rR rC
      go_wp2_with fail
      go_quiet (fail)
      go_wp2_with fail
      have hK' : (W.drewN nq).heap[D]? = some (.deferred (some [])) := hK
      show bodyPostM _ _ _ _ _ Exit.ret _ _
      refine ⟨by simp, .inl ⟨_, _, rfl, run_takeDeferred hK', ?_⟩⟩
      refine ⟨.tuple #[.slice (some ⟨gr, 0, none⟩) t.length t.length, .slice (some ⟨gc, 0, none⟩) (wid t 0) (wid t 0)], ?_, _, _, rfl, ownI_put (OR.out.keptB (row := none) (grow_drewN (grow_refl _ _) nq) (by simp [Value.ownBlock])) hK', ownI_put (OC.out.keptB (row := none) (grow_drewN (grow_refl _ _) nq) (by simp [Value.ownBlock])) hK', (belowDraws hB nq).trans (belowK_b (w := w) (Nat.le_refl _) (W.drewN nq) D _ _ (by simp at hD; omega) hK' rfl rfl)⟩
      simp [results, Try.f36, go_sem]
    case stop =>
      rintro D c pre W _ _ h _
      exact h.elim
  case step =>
    rintro bt a' w' i o ⟨x4, x5, x8, x9, x10, x11, x12, x13, x14, x15, rfl, st⟩ ho hbt haft
    have hi : i < 12 := by have := (Array.getElem?_eq_some_iff.1 ho).1; simpa using this
    have key : i = 0 ∨ i = 1 ∨ i = 2 ∨ i = 3 ∨ i = 4 ∨ i = 5 ∨ i = 6 ∨ i = 7 ∨ i = 8 ∨ i = 9 ∨ i = 10 ∨ i = 11 := by omega
    have cA : w'.cell? ⟨w.heap.size, 0, none⟩ = some (.slice (some ⟨b, off, none⟩) t.length cap) := (st.bel.cell (p := ⟨w.heap.size, 0, none⟩) (World.block_lt_of_cell? _ _ ha0)).trans ha0
    have cB : w'.cell? ⟨b, off, none⟩ = some (.slice a0 (wid t 0) c0) := (st.bel.cell (p := ⟨b, off, none⟩) (World.block_lt_of_cell? _ _ hb0)).trans hb0
    have ST := Lib.hid st
    clear st
    rcases key with rfl | rfl | rfl | rfl | rfl | rfl | rfl | rfl | rfl | rfl | rfl | rfl
    · obtain rfl := Option.some.inj ho
      refine ⟨rfl, Oper.wp_mono (K := fun a2 w2 => a2 = sumFr b off t.length cap w.heap.size x4 x5 (.slice (some ⟨b, off, none⟩) t.length cap) x9 x10 x11 x12 x13 x14 x15 ∧ w2 = w') (fun a2 w2 h2 => ⟨x4, x5, (.slice (some ⟨b, off, none⟩) t.length cap), x9, x10, x11, x12, x13, x14, x15, h2.1, h2.2 ▸ ST.out.s0⟩) ?_⟩
      unfold sumFr
      go_simp
    · obtain rfl := Option.some.inj ho
      have b0 : bt 0 = true := haft _ (Array.mem_iff_getElem?.2 ⟨0, rfl⟩) rfl
      obtain rfl := ST.out.f0 b0
      refine ⟨rfl, Oper.wp_mono (K := fun a2 w2 => a2 = sumFr b off t.length cap w.heap.size x4 x5 (.slice (some ⟨b, off, none⟩) t.length cap) (.int .i64 (t.length : Int)) x10 x11 x12 x13 x14 x15 ∧ w2 = w') (fun a2 w2 h2 => ⟨x4, x5, (.slice (some ⟨b, off, none⟩) t.length cap), (.int .i64 (t.length : Int)), x10, x11, x12, x13, x14, x15, h2.1, h2.2 ▸ ST.out.s1⟩) ?_⟩
      unfold sumFr
      go_simp
    · obtain rfl := Option.some.inj ho
      have b1 : bt 1 = true := haft _ (Array.mem_iff_getElem?.2 ⟨0, rfl⟩) rfl
      obtain rfl := ST.out.f1 b1
      refine ⟨rfl, Oper.wp_mono (K := fun a2 w2 => a2 = sumFr b off t.length cap w.heap.size x4 x5 x8 (.int .i64 (t.length : Int)) (.slice (some ⟨w'.heap.size, 0, none⟩) t.length t.length) x11 x12 x13 x14 x15 ∧ w2 = w'.alloc (.cells (madeCells #[.int .i64 0] t.length) 3)) (fun a2 w2 h2 => ⟨x4, x5, x8, (.int .i64 (t.length : Int)), (.slice (some ⟨w'.heap.size, 0, none⟩) t.length t.length), x11, x12, x13, x14, x15, h2.1, h2.2 ▸ ST.out.s2 hbt⟩) ?_⟩
      unfold sumFr
      go_simp
    · obtain rfl := Option.some.inj ho
      refine ⟨rfl, Oper.wp_mono (K := fun a2 w2 => a2 = sumFr b off t.length cap w.heap.size x4 x5 x8 x9 x10 (.slice (some ⟨b, off, none⟩) t.length cap) x12 x13 x14 x15 ∧ w2 = w') (fun a2 w2 h2 => ⟨x4, x5, x8, x9, x10, (.slice (some ⟨b, off, none⟩) t.length cap), x12, x13, x14, x15, h2.1, h2.2 ▸ ST.out.s3⟩) ?_⟩
      unfold sumFr
      go_simp
    · obtain rfl := Option.some.inj ho
      have b3 : bt 3 = true := haft _ (Array.mem_iff_getElem?.2 ⟨0, rfl⟩) rfl
      obtain rfl := ST.out.f3 b3
      refine ⟨rfl, Oper.wp_mono (K := fun a2 w2 => a2 = sumFr b off t.length cap w.heap.size x4 x5 x8 x9 x10 (.slice (some ⟨b, off, none⟩) t.length cap) (.pointer (some ⟨b, off, none⟩)) x13 x14 x15 ∧ w2 = w') (fun a2 w2 h2 => ⟨x4, x5, x8, x9, x10, (.slice (some ⟨b, off, none⟩) t.length cap), (.pointer (some ⟨b, off, none⟩)), x13, x14, x15, h2.1, h2.2 ▸ ST.out.s4⟩) ?_⟩
      unfold sumFr
      go_simp
    · obtain rfl := Option.some.inj ho
      have b4 : bt 4 = true := haft _ (Array.mem_iff_getElem?.2 ⟨0, rfl⟩) rfl
      obtain rfl := ST.out.f4 b4
      refine ⟨rfl, Oper.wp_mono (K := fun a2 w2 => a2 = sumFr b off t.length cap w.heap.size x4 x5 x8 x9 x10 x11 (.pointer (some ⟨b, off, none⟩)) (.slice a0 (wid t 0) c0) x14 x15 ∧ w2 = w') (fun a2 w2 h2 => ⟨x4, x5, x8, x9, x10, x11, (.pointer (some ⟨b, off, none⟩)), (.slice a0 (wid t 0) c0), x14, x15, h2.1, h2.2 ▸ ST.out.s5⟩) ?_⟩
      unfold sumFr
      go_simp
    · obtain rfl := Option.some.inj ho
      have b5 : bt 5 = true := haft _ (Array.mem_iff_getElem?.2 ⟨0, rfl⟩) rfl
      obtain rfl := ST.out.f5 b5
      refine ⟨rfl, Oper.wp_mono (K := fun a2 w2 => a2 = sumFr b off t.length cap w.heap.size x4 x5 x8 x9 x10 x11 x12 (.slice a0 (wid t 0) c0) (.int .i64 (wid t 0 : Int)) x15 ∧ w2 = w') (fun a2 w2 h2 => ⟨x4, x5, x8, x9, x10, x11, x12, (.slice a0 (wid t 0) c0), (.int .i64 (wid t 0 : Int)), x15, h2.1, h2.2 ▸ ST.out.s6⟩) ?_⟩
      unfold sumFr
      go_simp
    · obtain rfl := Option.some.inj ho
      have b6 : bt 6 = true := haft _ (Array.mem_iff_getElem?.2 ⟨0, rfl⟩) rfl
      obtain rfl := ST.out.f6 b6
      refine ⟨rfl, Oper.wp_mono (K := fun a2 w2 => a2 = sumFr b off t.length cap w.heap.size x4 x5 x8 x9 x10 x11 x12 x13 (.int .i64 (wid t 0 : Int)) (.slice (some ⟨w'.heap.size, 0, none⟩) (wid t 0) (wid t 0)) ∧ w2 = w'.alloc (.cells (madeCells #[.int .i64 0] (wid t 0)) 3)) (fun a2 w2 h2 => ⟨x4, x5, x8, x9, x10, x11, x12, x13, (.int .i64 (wid t 0 : Int)), (.slice (some ⟨w'.heap.size, 0, none⟩) (wid t 0) (wid t 0)), h2.1, h2.2 ▸ ST.out.s7 hbt⟩) ?_⟩
      unfold sumFr
      go_simp
    · obtain rfl := Option.some.inj ho
      refine ⟨rfl, Oper.wp_mono (K := fun a2 w2 => a2 = sumFr b off t.length cap w.heap.size (.pointer (some ⟨w'.heap.size, 0, none⟩)) x5 x8 x9 x10 x11 x12 x13 x14 x15 ∧ w2 = w'.alloc (.cells #[.slice none 0 0] 42)) (fun a2 w2 h2 => ⟨(.pointer (some ⟨w'.heap.size, 0, none⟩)), x5, x8, x9, x10, x11, x12, x13, x14, x15, h2.1, h2.2 ▸ ST.out.s8 hbt⟩) ?_⟩
      unfold sumFr
      go_simp
    · obtain rfl := Option.some.inj ho
      refine ⟨rfl, Oper.wp_mono (K := fun a2 w2 => a2 = sumFr b off t.length cap w.heap.size x4 (.pointer (some ⟨w'.heap.size, 0, none⟩)) x8 x9 x10 x11 x12 x13 x14 x15 ∧ w2 = w'.alloc (.cells #[.slice none 0 0] 42)) (fun a2 w2 h2 => ⟨x4, (.pointer (some ⟨w'.heap.size, 0, none⟩)), x8, x9, x10, x11, x12, x13, x14, x15, h2.1, h2.2 ▸ ST.out.s9 hbt⟩) ?_⟩
      unfold sumFr
      go_simp
    · obtain rfl := Option.some.inj ho
      have b8 : bt 8 = true := haft _ (Array.mem_iff_getElem?.2 ⟨0, rfl⟩) rfl
      have b2 : bt 2 = true := haft _ (Array.mem_iff_getElem?.2 ⟨1, rfl⟩) rfl
      obtain ⟨gr, rfl, _, _⟩ := ST.out.f2 b2
      obtain ⟨g4, rfl, _, bx4⟩ := ST.out.f8 b8
      have k1 := bx4.cell
      have k2 := bx4.frozen
      refine ⟨rfl, Oper.wp_mono (K := fun a2 w2 => a2 = sumFr b off t.length cap w.heap.size (.pointer (some ⟨g4, 0, none⟩)) x5 x8 x9 (.slice (some ⟨gr, 0, none⟩) t.length t.length) x11 x12 x13 x14 x15 ∧ w2 = w'.setCell ⟨g4, 0, none⟩ (.slice (some ⟨gr, 0, none⟩) t.length t.length)) (fun a2 w2 h2 => ⟨(.pointer (some ⟨g4, 0, none⟩)), x5, x8, x9, (.slice (some ⟨gr, 0, none⟩) t.length t.length), x11, x12, x13, x14, x15, h2.1, h2.2 ▸ ST.out.s10 rfl b2 b8⟩) ?_⟩
      unfold sumFr
      go_simp
    · obtain rfl := Option.some.inj ho
      have b9 : bt 9 = true := haft _ (Array.mem_iff_getElem?.2 ⟨0, rfl⟩) rfl
      have b7 : bt 7 = true := haft _ (Array.mem_iff_getElem?.2 ⟨1, rfl⟩) rfl
      obtain ⟨gc, rfl, _, _⟩ := ST.out.f7 b7
      obtain ⟨g5, rfl, _, bx5⟩ := ST.out.f9 b9
      have k1 := bx5.cell
      have k2 := bx5.frozen
      refine ⟨rfl, Oper.wp_mono (K := fun a2 w2 => a2 = sumFr b off t.length cap w.heap.size x4 (.pointer (some ⟨g5, 0, none⟩)) x8 x9 x10 x11 x12 x13 x14 (.slice (some ⟨gc, 0, none⟩) (wid t 0) (wid t 0)) ∧ w2 = w'.setCell ⟨g5, 0, none⟩ (.slice (some ⟨gc, 0, none⟩) (wid t 0) (wid t 0))) (fun a2 w2 h2 => ⟨x4, (.pointer (some ⟨g5, 0, none⟩)), x8, x9, x10, x11, x12, x13, x14, (.slice (some ⟨gc, 0, none⟩) (wid t 0) (wid t 0)), h2.1, h2.2 ▸ ST.out.s11 rfl b7 b9⟩) ?_⟩
      unfold sumFr
      go_simp

end Go.Proofs.Ytdlpcoafbmhjjaa
