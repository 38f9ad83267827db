/- The reader of a code: what pick leaves behind. -/
import Derived.Test.YtdlpcoafbmhjjaaRows
import Derived.WalkKit
import Derived.WalkSpells
import Derived.WalkLawsBesides
import Derived.Lib.Hide
import Derived.Deep.QuietTactic
import Derived.BigQuiet
import Derived.Maps.AppendAt
import Derived.Lib.HexFns
import Derived.OpenShut
import Derived.IntWalk
namespace Go.Proofs.Ytdlpcoafbmhjjaa
open Go.RowKit

/-- a slice of integers: nil, or a row of 'cap' cells -/
def IsRow (k : IntKind) (w : World) (a : Option Addr) (len cap : Nat) (zs : List Int) : Prop :=
  (a = none ∧ len = 0 ∧ cap = 0 ∧ zs = []) ∨
  ∃ x, a = some x ∧ len ≤ cap ∧ cap ≤ maxLen ∧ zs.length = cap ∧ (∀ i, i < zs.length → w.cell? (x.add i) = some (.int k (zs.getD i 0))) ∧ ∀ n ∈ zs, (Lit.int k n).wf = true

/-- the reader at block B: its two fields, the bytes behind it (they lie below B) -/
structure Rd (w : World) (B : Nat) (a : Option Addr) (len cap : Nat) (zs : List Int) (p : Int) : Prop where
  c0 : w.cell? ⟨B, 0, none⟩ = some (.slice a len cap)
  c1 : w.cell? ⟨B, 1, none⟩ = some (.int .i64 p)
  f1 : w.frozen? ⟨B, 1, none⟩ = false
  lo : 0 ≤ p
  hi : p ≤ 1000000
  len_le : len ≤ 2000
  row : IsRow .u8 w a len cap zs
  apart : ∀ x, a = some x → 0 < zs.length → x.block < B

theorem xor_nonneg (x y : Int) (h1 : 0 ≤ x) (h2 : x < 4611686018427387904) (h3 : 0 ≤ y) (h4 : y < 4611686018427387904) : 0 ≤ bits .xor .i64 x y := by
  obtain ⟨a, rfl⟩ := Int.eq_ofNat_of_zero_le h1
  obtain ⟨b, rfl⟩ := Int.eq_ofNat_of_zero_le h3
  have hx : a ^^^ b < 2 ^ 62 := Nat.xor_lt_two_pow (by omega) (by omega)
  have e1 : (BitVec.ofInt 64 (a : Int)).toNat = a := by
    rw [BitVec.ofInt_natCast, BitVec.toNat_ofNat]; exact Nat.mod_eq_of_lt (by omega)
  have e2 : (BitVec.ofInt 64 (b : Int)).toNat = b := by
    rw [BitVec.ofInt_natCast, BitVec.toNat_ofNat]; exact Nat.mod_eq_of_lt (by omega)
  show 0 ≤ IntKind.i64.wrap ((BitVec.ofInt 64 (a : Int) ^^^ BitVec.ofInt 64 (b : Int)).toNat : Int)
  rw [BitVec.toNat_xor, e1, e2, IntKind.wrap_i64]
  omega

/-- what pick leaves: a number below n, the place moved on by one -/
def Picked (w : World) (B : Nat) (p n : Int) (e : Ending) (w' : World) : Prop :=
  (∃ v, e = .returned (.int .i64 v) ∧ 0 ≤ v ∧ (v = 0 ∨ v < n)) ∧ ∃ k, w' = (w.setCell ⟨B, 1, none⟩ (.int .i64 (p + 1))).drewN k

set_option maxHeartbeats 400000 in
theorem pick_any (w : World) (B : Nat) (a : Option Addr) (len cap : Nat) (zs : List Int) (p n : Int) (h : Rd w B a len cap zs p) :
    Calls Try.prog 18 #[.pointer (some ⟨B, 0, none⟩), .int .i64 n] w (Picked w B p n) := by
  obtain ⟨c0, c1, f1, lo, hi, hlen, row, ap⟩ := h
  by_cases h1 : n < 1
  · go_enter Try.func18, Try.ntmps18
    go_wp2
    go_ret
    exact ⟨⟨0, rfl, by omega, by omega⟩, 0, rfl⟩
  by_cases h2 : len = 0
  · subst h2
    go_enter Try.func18, Try.ntmps18
    go_wp2
    go_ret
    exact ⟨⟨0, rfl, by omega, by omega⟩, 0, rfl⟩
  obtain ⟨q, rfl⟩ := Int.eq_ofNat_of_zero_le lo
  have hl0 : ((len : Int) == 0) = false := by simp; omega
  rcases row with ⟨_, h0, _, _⟩ | ⟨x, rfl, hl, hm, hz, hcell, hwz⟩
  · exact absurd h0 h2
  obtain ⟨b, off, spot⟩ := x
  have hspot : spot = none := by simpa [Addr.add] using World.cell?_spot (hcell 0 (by omega))
  subst hspot
  have hB : b ≠ B := by have := ap _ rfl (by omega); simp at this; omega
  have hc : ∀ i, i < zs.length → w.cell? ⟨b, off + i, none⟩ = some (.int .u8 (zs[i]?.getD 0)) := fun i hi => by
    have := hcell i hi
    rw [List.getD_eq_getElem?_getD] at this
    rw [← this]
    congr 1
    unfold Addr.add; split <;> simp_all
  have hr := range_u8 hwz
  clear hcell hwz ap
  by_cases h3 : q < len
  · have hcq := hc q (by omega)
    obtain ⟨r1, r2⟩ := hr q
    have m1 := Int.emod_nonneg (zs[q]?.getD 0) (show n ≠ 0 by omega)
    have m2 := Int.emod_lt_of_pos (zs[q]?.getD 0) (show 0 < n by omega)
    clear hc hr
    generalize zs[q]?.getD 0 = z at *
    go_enter Try.func18, Try.ntmps18
    go_wp2
    go_ret
    exact ⟨⟨_, rfl, by omega, by omega⟩, 0, rfl⟩
  · obtain ⟨i1, hi1, t1⟩ : ∃ i : Nat, i < len ∧ (q : Int).tmod (len : Int) = (i : Int) := ⟨q % len, Nat.mod_lt _ (by omega), (Int.ofNat_tmod q len).symm⟩
    obtain ⟨i2, hi2, t2⟩ : ∃ i : Nat, i < len ∧ ((q : Int) * 7 + 3).tmod (len : Int) = (i : Int) := ⟨(q * 7 + 3) % len, Nat.mod_lt _ (by omega), (Int.ofNat_tmod (q * 7 + 3) len).symm⟩
    obtain ⟨i3, hi3, t3⟩ : ∃ i : Nat, i ≤ q ∧ (q : Int).tdiv (len : Int) = (i : Int) := ⟨q / len, Nat.div_le_self _ _, (Int.ofNat_tdiv q len).symm⟩
    have hc1 := hc i1 (by omega)
    have hc2 := hc i2 (by omega)
    obtain ⟨r1, r2⟩ := hr i1
    obtain ⟨s1, s2⟩ := hr i2
    clear hc hr
    generalize zs[i1]?.getD 0 = z at *
    generalize zs[i2]?.getD 0 = y at *
    have e1 := IntWalk.i64_in ((q : Int) * 7) (by omega)
    have e2 := IntWalk.i64_in ((q : Int) * 7 + 3) (by omega)
    have e3 := IntWalk.i64_in ((q : Int) * 29) (by omega)
    have e4 := IntWalk.i64_in (i1 : Int) (by omega)
    have e5 := IntWalk.i64_in (i2 : Int) (by omega)
    have e6 := IntWalk.i64_in (i3 : Int) (by omega)
    have e7 := IntWalk.i64_in (z * 131) (by omega)
    have e8 := IntWalk.i64_in (y * 1117) (by omega)
    have e9 := IntWalk.i64_in (z * 131 + y * 1117) (by omega)
    have e10 := IntWalk.i64_in (z * 131 + y * 1117 + (q : Int) * 29) (by omega)
    have e11 := IntWalk.i64_in ((i3 : Int) * 53) (by omega)
    have e12 := IntWalk.i64_in (z * 131 + y * 1117 + (q : Int) * 29 + (i3 : Int) * 53) (by omega)
    have e13 := IntWalk.i64_in z (by omega)
    have e14 := IntWalk.i64_in y (by omega)
    go_enter Try.func18, Try.ntmps18
    go_wp2
    go_quiet (fail)
    clear e1 e2 e3 e4 e5 e6 e7 e8 e9 e10 e11 e12 e13 e14 t1 t2 t3
    go_wp2
    go_ret
    have hx := xor_nonneg (z * 131 + y * 1117 + (q : Int) * 29 + (i3 : Int) * 53) ((z * 131 + y * 1117 + (q : Int) * 29 + (i3 : Int) * 53) / 64) (by omega) (by omega) (by omega) (by omega)
    generalize bits BinOp.xor IntKind.i64 (z * 131 + y * 1117 + (q : Int) * 29 + (i3 : Int) * 53) ((z * 131 + y * 1117 + (q : Int) * 29 + (i3 : Int) * 53) / 64) = X at hx ⊢
    have m1 := Int.emod_nonneg X (show n ≠ 0 by omega)
    have m2 := Int.emod_lt_of_pos X (show 0 < n by omega)
    rw [← Int.tmod_eq_emod_of_nonneg hx] at m1 m2
    exact ⟨⟨_, rfl, m1, Or.inr m2⟩, _, rfl⟩
end Go.Proofs.Ytdlpcoafbmhjjaa
