/- The reader of a code: contracts in the form in which the drawing functions use them. -/
import Derived.Test.YtdlpcoafbmhjjaaDraw
namespace Go.Proofs.Ytdlpcoafbmhjjaa
open Go.RowKit

theorem grow_refl (w : World) (row : Option Nat) : w.grownBy w row := ⟨rfl, rfl, rfl, Nat.le_refl _, fun _ _ _ => rfl⟩
theorem grow_trans {a b c : World} {row : Option Nat} (h : a.grownBy b row) (k : b.grownBy c row) : a.grownBy c row :=
  ⟨k.os.trans h.os, k.tape.trans h.tape, k.output.trans h.output, Nat.le_trans h.size k.size, fun i hi hr => (k.block i (Nat.lt_of_lt_of_le hi h.size) hr).trans (h.block i hi hr)⟩
theorem grow_set {w w' : World} {b : Nat} (h : w.grownBy w' (some b)) (o : Nat) (v : Value) : w.grownBy (w'.setCell ⟨b, o, none⟩ v) (some b) :=
  grow_trans h ⟨rfl, rfl, rfl, by simp [World.setCell], fun k _ hr => Below.heap_setCell _ _ _ _ (fun e => hr (by rw [e]))⟩
theorem grow_drewN {w w' : World} {row : Option Nat} (h : w.grownBy w' row) (n : Nat) : w.grownBy (w'.drewN n) row := ⟨h.os, h.tape, h.output, h.size, h.block⟩
theorem grow_drew {w w' : World} {row : Option Nat} (h : w.grownBy w' row) : w.grownBy w'.drew row := ⟨h.os, h.tape, h.output, h.size, h.block⟩
theorem grow_alloc {w w' : World} {row : Option Nat} (h : w.grownBy w' row) (o : Obj) : w.grownBy (w'.alloc o) row := grow_trans h (World.grownBy_alloc _ _ _)
/-- what grows beside a block that is new is 'Below' -/
theorem below_grow {w0 w w' : World} {b : Nat} (h : Below w0.heap.size w0 w) (hg : w.grownBy w' (some b)) (hb : w0.heap.size ≤ b) : Below w0.heap.size w0 w' :=
  h.grown hg h.size (fun k e => by cases e; exact hb)

theorem isRow_kept {k : IntKind} {w w' : World} {a : Option Addr} {len cap : Nat} {zs : List Int} (h : IsRow k w a len cap zs)
    (hb : ∀ x, a = some x → 0 < zs.length → w'.heap[x.block]? = w.heap[x.block]?) : IsRow k w' a len cap zs := by
  rcases h with h | ⟨x, rfl, h1, h2, h3, h4, h5⟩
  · exact Or.inl h
  · refine Or.inr ⟨x, rfl, h1, h2, h3, fun i hi => ?_, h5⟩
    rw [← h4 i hi]
    apply World.cell?_of_block
    have : (x.add i).block = x.block := by unfold Addr.add; split <;> rfl
    rw [this]; exact hb x rfl (by omega)

theorem Rd.lt {w : World} {B : Nat} {a : Option Addr} {len cap : Nat} {zs : List Int} {p : Int} (h : Rd w B a len cap zs p) : B < w.heap.size := World.block_lt_of_cell? _ _ h.c0

/-- the reader stays when another block is written, or memory is made -/
theorem Rd.kept {w w' : World} {B : Nat} {a : Option Addr} {len cap : Nat} {zs : List Int} {p : Int} {row : Option Nat} (h : Rd w B a len cap zs p)
    (hg : w.grownBy w' row) (hr : ∀ k, row = some k → B < k) : Rd w' B a len cap zs p := by
  have hB := h.lt
  have hne : some B ≠ row := fun e => by have := hr B e.symm; omega
  refine ⟨hg.cell h.c0 hne, hg.cell h.c1 hne, ?_, h.lo, h.hi, h.len_le, isRow_kept h.row ?_, h.apart⟩
  · rw [← h.f1]; exact World.frozen?_of_block (hg.block B hB hne)
  · intro x hx hz
    have := h.apart x hx hz
    exact hg.block _ (by omega) (fun e => by have := hr _ e.symm; omega)

theorem Rd.alloc {w : World} {B : Nat} {a : Option Addr} {len cap : Nat} {zs : List Int} {p : Int} (h : Rd w B a len cap zs p) (o : Obj) : Rd (w.alloc o) B a len cap zs p :=
  h.kept (World.grownBy_alloc w o none) (by simp)

theorem Rd.drewN {w : World} {B : Nat} {a : Option Addr} {len cap : Nat} {zs : List Int} {p : Int} (h : Rd w B a len cap zs p) (n : Nat) : Rd (w.drewN n) B a len cap zs p :=
  h.kept (row := none) (grow_drewN (grow_refl _ _) n) (by simp)

theorem Rd.moved {w : World} {B : Nat} {a : Option Addr} {len cap : Nat} {zs : List Int} {p : Int} (h : Rd w B a len cap zs p) (hp : p < 1000000) :
    Rd (w.setCell ⟨B, 1, none⟩ (.int .i64 (p + 1))) B a len cap zs (p + 1) := by
  refine ⟨?_, ?_, ?_, by have := h.lo; omega, by omega, h.len_le, isRow_kept h.row ?_, h.apart⟩
  · rw [World.cell?_setCell_other]
    · exact h.c0
    · simp
  · exact World.cell?_setCell_same' _ _ _ (by rw [h.c1]; rfl)
  · rw [World.frozen?_setCell]; exact h.f1
  · intro x hx hz
    have := h.apart x hx hz
    exact Below.heap_setCell _ _ _ _ (by simp; omega)

/-- what a drawing step leaves: an integer of a range; the reader moved on by at most c; nothing else written -/
def DrewInt (lo hi c : Int) (w : World) (B : Nat) (a : Option Addr) (len cap : Nat) (zs : List Int) (p : Int) (e : Ending) (w' : World) : Prop :=
  ∃ x p', e = .returned (.int .i64 x) ∧ lo ≤ x ∧ x ≤ hi ∧ p ≤ p' ∧ p' ≤ p + c ∧ Rd w' B a len cap zs p' ∧ w.grownBy w' (some B)

/-- pick: a natural number below n -/
def DrewNat (n : Int) (w : World) (B : Nat) (a : Option Addr) (len cap : Nat) (zs : List Int) (p : Int) (e : Ending) (w' : World) : Prop :=
  ∃ m : Nat, e = .returned (.int .i64 (m : Int)) ∧ (m = 0 ∨ (m : Int) < n) ∧ Rd w' B a len cap zs (p + 1) ∧ w.grownBy w' (some B)

theorem pick_use (w : World) (B : Nat) (a : Option Addr) (len cap : Nat) (zs : List Int) (p n : Int) (h : Rd w B a len cap zs p) (hp : p < 1000000) :
    Calls Try.prog 18 #[.pointer (some ⟨B, 0, none⟩), .int .i64 n] w (DrewNat n w B a len cap zs p) := by
  refine (pick_any w B a len cap zs p n h).mono ?_
  rintro e w' ⟨⟨v, rfl, h0, h1⟩, k, rfl⟩
  obtain ⟨m, rfl⟩ := Int.eq_ofNat_of_zero_le h0
  exact ⟨m, rfl, by omega, (h.moved hp).drewN k, grow_drewN (grow_set (grow_refl _ _) _ _) _⟩

/-! ### opening a code -/

/-- what l6Open leaves: a pointer to a new reader -/
def Opened (w : World) (e : Ending) (w' : World) : Prop :=
  ∃ B a len cap zs, w.heap.size ≤ B ∧ e = .returned (.pointer (some ⟨B, 0, none⟩)) ∧ Rd w' B a len cap zs 0 ∧ Below w.heap.size w w'

theorem isRow_blk {k : IntKind} {w : World} {a : Option Addr} {len cap : Nat} {zs : List Int} (h : IsRow k w a len cap zs) :
    ∀ x, a = some x → 0 < zs.length → x.block < w.heap.size := by
  rintro x rfl hz
  rcases h with ⟨h, _⟩ | ⟨x, h', h1, h2, h3, h4, h5⟩
  · cases h
  · cases h'
    have := World.block_lt_of_cell? _ _ (h4 0 (by omega))
    have e : (x.add 0).block = x.block := by unfold Addr.add; split <;> rfl
    rw [e] at this; exact this

theorem isRow_short {k : IntKind} {w : World} {a : Option Addr} {len cap : Nat} {zs : List Int} (h : IsRow k w a len cap zs) (m : Nat) (hm : m ≤ len) : IsRow k w a m cap zs := by
  rcases h with ⟨rfl, rfl, rfl, rfl⟩ | ⟨x, rfl, h1, h2, h3, h4, h5⟩
  · exact Or.inl ⟨rfl, by omega, rfl, rfl⟩
  · exact Or.inr ⟨x, rfl, by omega, h2, h3, h4, h5⟩

theorem cell_new (w : World) (cs : Array Value) (t : TypeId) (i : Nat) : (w.alloc (.cells cs t)).cell? ⟨w.heap.size, i, none⟩ = cs[i]? := by
  simp only [World.cell?]; rw [heap_alloc_new]; simp
theorem frozen_new (w : World) (cs : Array Value) (t : TypeId) (i : Nat) : (w.alloc (.cells cs t)).frozen? ⟨w.heap.size, i, none⟩ = false := by
  simp only [World.frozen?]; rw [heap_alloc_new]; simp

/-- a new reader -/
theorem Rd.new (w : World) (a : Option Addr) (len cap : Nat) (zs : List Int) (t : TypeId) (h : IsRow .u8 w a len cap zs) (hl : len ≤ 2000) :
    Rd (w.alloc (.cells #[.slice a len cap, .int .i64 0] t)) w.heap.size a len cap zs 0 := by
  refine ⟨?_, ?_, ?_, by omega, by omega, hl, isRow_kept h ?_, isRow_blk h⟩
  · rw [cell_new]; rfl
  · rw [cell_new]; rfl
  · exact frozen_new _ _ _ _
  · intro x hx hz
    exact Below.heap_alloc _ _ _ (isRow_blk h x hx hz)

set_option maxHeartbeats 400000 in
theorem open_any (w : World) (a : Option Addr) (len cap : Nat) (zs : List Int) (h : IsRow .u8 w a len cap zs) :
    Calls Try.prog 16 #[.slice a len cap] w (Opened w) := by
  by_cases h1 : 2000 < len
  · have hs := isRow_short h 2000 (by omega)
    have hn := Rd.new w a 2000 cap zs 67 hs (Nat.le_refl _)
    rcases h with ⟨_, h0, _, _⟩ | ⟨x, rfl, hl, hm, hz, hcell, hwz⟩
    · omega
    unfold maxLen at hm
    have hh := Lib.hid hcell; clear hcell
    go_enter Try.func16, Try.ntmps16
    go_wp2
    go_ret
    exact ⟨w.heap.size, _, 2000, cap, zs, Nat.le_refl _, rfl, hn, (Below.refl _ _).alloc (Nat.le_refl _) _⟩
  · have hn := Rd.new w a len cap zs 67 h (by omega)
    go_enter Try.func16, Try.ntmps16
    go_wp2
    go_ret
    exact ⟨w.heap.size, a, len, cap, zs, Nat.le_refl _, rfl, hn, (Below.refl _ _).alloc (Nat.le_refl _) _⟩

/-! ### the drawing functions of the roundings -/

/-- a cell of a new block, behind a step that writes to another block alone -/
theorem cell_lit {w w' : World} {cs : Array Value} {t : TypeId} {B : Nat} (hg : (w.alloc (.cells cs t)).grownBy w' (some B)) (hB : B < w.heap.size) (i : Nat) (v : Value) (hv : cs[i]? = some v) :
    w'.cell? ⟨w.heap.size, i, none⟩ = some v :=
  hg.cell (by rw [cell_new]; exact hv) (by simp; omega)

theorem ungrow_drew {w w' : World} {row : Option Nat} (h : w.drew.grownBy w' row) : w.grownBy w' row := ⟨h.os, h.tape, h.output, h.size, h.block⟩
theorem Rd.drew {w : World} {B : Nat} {a : Option Addr} {len cap : Nat} {zs : List Int} {p : Int} (h : Rd w B a len cap zs p) : Rd w.drew B a len cap zs p := h.drewN 1

/-- an element of a literal of two numbers -/
theorem two_lit (x y : Int) (k : Nat) (lo hi : Int) (h1 : lo ≤ x) (h2 : x ≤ hi) (h3 : lo ≤ y) (h4 : y ≤ hi) (hk : k < 2) :
    ∃ z, lo ≤ z ∧ z ≤ hi ∧ (#[Value.int .i64 x, .int .i64 y] : Array Value)[k]? = some (.int .i64 z) := by
  have : k = 0 ∨ k = 1 := by omega
  rcases this with rfl | rfl
  · exact ⟨x, h1, h2, rfl⟩
  · exact ⟨y, h3, h4, rfl⟩
theorem two_lt {u v z : Value} {k : Nat} (h : (#[u, v] : Array Value)[k]? = some z) : k < 2 := by
  have := (Array.getElem?_eq_some_iff.1 h).1; simpa using this

end Go.Proofs.Ytdlpcoafbmhjjaa
