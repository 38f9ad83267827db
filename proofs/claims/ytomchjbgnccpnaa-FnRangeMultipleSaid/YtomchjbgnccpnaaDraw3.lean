/- The drawing functions of the roundings: they return numbers of a range and write nothing that was there. -/
import Derived.Test.YtomchjbgnccpnaaDraw2
import Derived.Test.YtomchjbgnccpnaaRound2
import Derived.Deep.RegionWith
namespace Go.Proofs.Ytomchjbgnccpnaa
open Go.RowKit

set_option maxHeartbeats 400000 in
theorem base_any (w : World) (B : Nat) (a : Option Addr) (len cap : Nat) (zs : List Int) (p : Int) (h : Rd w B a len cap zs p) (hp : p < 999000) :
    Calls Try.prog 26 #[.pointer (some ⟨B, 0, none⟩)] w (DrewInt 1 21 2 w B a len cap zs p) := by
  go_enter Try.func26, Try.ntmps26
  go_wp2_with fail
  refine (pick_use w B a len cap zs p 24 h (by omega)).mono ?_
  rintro e w1 ⟨m, rfl, hm, r1, g1⟩
  by_cases m0 : m = 0
  · subst m0
    go_wp2_with fail
    refine (pick_use _ B a len cap zs (p + 1) 3 (r1.alloc _) (by omega)).mono ?_
    rintro e w2 ⟨k, rfl, hk, r2, g2⟩
    have hk4 : k < 3 := by omega
    obtain ⟨y, hy1, hy2, hy3⟩ : ∃ y : Int, 1 ≤ y ∧ y ≤ 21 ∧ w2.cell? ⟨w1.heap.size, k, none⟩ = some (.int .i64 y) := by
      have : k = 0 ∨ k = 1 ∨ k = 2 := by omega
      rcases this with rfl | rfl | rfl
      · exact ⟨1, by omega, by omega, cell_lit g2 r1.lt _ _ rfl⟩
      · exact ⟨21, by omega, by omega, cell_lit g2 r1.lt _ _ rfl⟩
      · exact ⟨20, by omega, by omega, cell_lit g2 r1.lt _ _ rfl⟩
    have R2 := Lib.hid r2; clear r2 hm hk
    go_wp2
    go_ret
    exact ⟨y, p + 1 + 1, rfl, hy1, hy2, by omega, by omega, R2.out, grow_trans (grow_alloc g1 _) g2⟩
  · have c0 : ((m : Int) == 0) = false := by simp; omega
    go_wp2_with fail
    refine (pick_use _ B a len cap zs (p + 1) 9 r1 (by omega)).mono ?_
    rintro e w2 ⟨k, rfl, hk, r2, g2⟩
    have hk4 : k < 9 := by omega
    clear hm hk
    go_wp2
    go_ret
    exact ⟨_, p + 1 + 1, rfl, by omega, by omega, by omega, by omega, r2, grow_trans g1 g2⟩

/-- two numbers drawn -/
def Drew2 (w : World) (e : Ending) (w' : World) : Prop :=
  ∃ x b, e = .returned (.tuple #[.int .i64 x, .int .i64 b]) ∧ -1 ≤ x ∧ x ≤ 10001 ∧ 1 ≤ b ∧ b ≤ 21 ∧ Below w.heap.size w w'

/-- three numbers drawn -/
def Drew3 (w : World) (e : Ending) (w' : World) : Prop :=
  ∃ x b l, e = .returned (.tuple #[.int .i64 x, .int .i64 b, .int .i64 l]) ∧ -1 ≤ x ∧ x ≤ 10001 ∧ 1 ≤ b ∧ b ≤ 21 ∧ -1 ≤ l ∧ l ≤ 21 ∧ Below w.heap.size w w'

set_option maxHeartbeats 400000 in
theorem drawDown (w : World) (a : Option Addr) (len cap : Nat) (zs : List Int) (h : IsRow .u8 w a len cap zs) :
    Calls Try.prog 31 #[.slice a len cap] w (Drew2 w) := by
  have H := Lib.hid h; clear h
  go_enter Try.func31, Try.ntmps31
  go_wp2_with fail
  refine (open_any _ _ _ _ _ H.out).mono ?_
  rintro e w1 ⟨B, a1, l1, c1, z1, hB, rfl, r1, b1⟩
  go_wp2_with fail
  refine (count_any _ B _ _ _ _ _ r1 (by omega)).mono ?_
  rintro e w2 ⟨x, p, rfl, x1, x2, p1, p2, r2, g2⟩
  go_wp2_with fail
  refine (base_any _ B _ _ _ _ _ r2 (by omega)).mono ?_
  rintro e w3 ⟨y, q, rfl, y1, y2, q1, q2, r3, g3⟩
  go_wp2
  go_ret2
  exact ⟨x, y, rfl, x1, x2, y1, y2, below_grow (below_grow b1 g2 hB) g3 hB⟩

set_option maxHeartbeats 400000 in
theorem drawNear (w : World) (a : Option Addr) (len cap : Nat) (zs : List Int) (h : IsRow .u8 w a len cap zs) :
    Calls Try.prog 19 #[.slice a len cap] w (Drew2 w) := by
  have H := Lib.hid h; clear h
  go_enter Try.func19, Try.ntmps19
  go_wp2_with fail
  refine (drawDown _ _ _ _ _ H.out).mono ?_
  rintro e w1 ⟨x, y, rfl, x1, x2, y1, y2, b1⟩
  go_wp2
  go_ret2
  exact ⟨x, y, rfl, x1, x2, y1, y2, b1⟩

set_option maxHeartbeats 400000 in
theorem drawLow (w : World) (a : Option Addr) (len cap : Nat) (zs : List Int) (h : IsRow .u8 w a len cap zs) :
    Calls Try.prog 12 #[.slice a len cap] w (Drew2 w) := by
  have H := Lib.hid h; clear h
  go_enter Try.func12, Try.ntmps12
  go_wp2_with fail
  refine (open_any _ _ _ _ _ H.out).mono ?_
  rintro e w1 ⟨B, a1, l1, c1, z1, hB, rfl, r1, b1⟩
  go_wp2_with fail
  refine (count_any _ B _ _ _ _ _ r1 (by omega)).mono ?_
  rintro e w2 ⟨x, p, rfl, x1, x2, p1, p2, r2, g2⟩
  go_wp2_with fail
  refine (base_any _ B _ _ _ _ _ r2 (by omega)).mono ?_
  rintro e w3 ⟨y, q, rfl, y1, y2, q1, q2, r3, g3⟩
  go_wp2_with fail
  refine (pick_use _ B _ _ _ _ _ _ r3 (by omega)).mono ?_
  rintro e w4 ⟨m, rfl, hm, r4, g4⟩
  have hb := below_grow (below_grow (below_grow b1 g2 hB) g3 hB) g4 hB
  by_cases hk : okR x y
  · obtain ⟨m1, m2, m3⟩ := mod_bd hk
    by_cases hm0 : 0 < m
    · have hk' := Lib.hid hk
      obtain ⟨k1, k2, k3, k4⟩ := hk
      go_wp2_with (go_at_call 28; (with_reducible refine (sOk_t _ _ _ hk'.out).mono ?_); rintro e w' ⟨rfl, rfl⟩)
      go_ret2
      exact ⟨_, y, rfl, by omega, by omega, y1, y2, hb⟩
    · have : m = 0 := by omega
      subst this
      go_wp2_with fail
      go_ret2
      exact ⟨x, y, rfl, x1, x2, y1, y2, hb⟩
  · have hk' := Lib.hid hk; clear hk
    by_cases hm0 : 0 < m
    · go_wp2_with (go_at_call 28; (with_reducible refine (sOk_f _ _ _ hk'.out).mono ?_); rintro e w' ⟨rfl, rfl⟩)
      go_ret2
      exact ⟨x, y, rfl, x1, x2, y1, y2, hb⟩
    · have : m = 0 := by omega
      subst this
      go_wp2_with fail
      go_ret2
      exact ⟨x, y, rfl, x1, x2, y1, y2, hb⟩

set_option maxHeartbeats 400000 in
theorem drawHigh (w : World) (a : Option Addr) (len cap : Nat) (zs : List Int) (h : IsRow .u8 w a len cap zs) :
    Calls Try.prog 22 #[.slice a len cap] w (Drew2 w) := by
  have H := Lib.hid h; clear h
  go_enter Try.func22, Try.ntmps22
  go_wp2_with fail
  refine (drawLow _ _ _ _ _ H.out).mono ?_
  rintro e w1 ⟨x, y, rfl, x1, x2, y1, y2, b1⟩
  go_wp2
  go_ret2
  exact ⟨x, y, rfl, x1, x2, y1, y2, b1⟩

theorem ungrow_drew {w w' : World} {row : Option Nat} (h : w.drew.grownBy w' row) : w.grownBy w' row := ⟨h.os, h.tape, h.output, h.size, h.block⟩
theorem Rd.drew {w : World} {B : Nat} {a : Option Addr} {len cap : Nat} {zs : List Int} {p : Int} (h : Rd w B a len cap zs p) : Rd w.drew B a len cap zs p := h.drewN 1

/-- an element of a literal of two numbers -/
theorem two_lit (x y : Int) (k : Nat) (lo hi : Int) (h1 : lo ≤ x) (h2 : x ≤ hi) (h3 : lo ≤ y) (h4 : y ≤ hi) (hk : k < 2) :
    ∃ z, lo ≤ z ∧ z ≤ hi ∧ (#[Value.int .i64 x, .int .i64 y] : Array Value)[k]? = some (.int .i64 z) := by
  have : k = 0 ∨ k = 1 := by omega
  rcases this with rfl | rfl
  · exact ⟨x, h1, h2, rfl⟩
  · exact ⟨y, h3, h4, rfl⟩
theorem two_lt {u v z : Value} {k : Nat} (h : (#[u, v] : Array Value)[k]? = some z) : k < 2 := by
  have := (Array.getElem?_eq_some_iff.1 h).1; simpa using this

set_option maxHeartbeats 400000 in
theorem drawDraw (w : World) (a : Option Addr) (len cap : Nat) (zs : List Int) (h : IsRow .u8 w a len cap zs) :
    Calls Try.prog 16 #[.slice a len cap] w (Drew3 w) := by
  have H := Lib.hid h; clear h
  go_enter Try.func16, Try.ntmps16
  go_wp2_with fail
  refine (open_any _ _ _ _ _ H.out).mono ?_
  rintro e w1 ⟨B, a1, l1, c1, z1, hB, rfl, r1, b1⟩
  go_wp2_with fail
  refine (count_any _ B _ _ _ _ _ r1 (by omega)).mono ?_
  rintro e w2 ⟨x, p, rfl, x1, x2, p1, p2, r2, g2⟩
  go_wp2_with fail
  refine (base_any _ B _ _ _ _ _ r2 (by omega)).mono ?_
  rintro e w3 ⟨y, q, rfl, y1, y2, q1, q2, r3, g3⟩
  go_wp2_with fail
  refine (pick_use _ B _ _ _ _ _ _ r3 (by omega)).mono ?_
  rintro e w4 ⟨m, rfl, hm, r4, g4⟩
  have hb := below_grow (below_grow (below_grow b1 g2 hB) g3 hB) g4 hB
  by_cases hm0 : m = 0
  · subst hm0
    go_wp2_with fail
    go_region_with (first
      | (go_at_call 27; (with_reducible refine (pick_use _ B a1 l1 c1 z1 (q + 1) 2 ((r4.alloc _).drew) (by omega)).mono ?_); rintro e w5 ⟨k, rfl, hk, r5, g5⟩; obtain ⟨z, hz1, hz2, hz3⟩ := two_lit (-1) y k (-1) 21 (by omega) (by omega) (by omega) (by omega) (by omega); have hz4 := cell_lit (ungrow_drew g5) r4.lt k _ hz3; clear hk; have hk2 : (k : Int) < 2 := by have := two_lt hz3; omega)
      | (go_at_call 27; (with_reducible refine (pick_use _ B a1 l1 c1 z1 (q + 1) 2 r4.drew (by omega)).mono ?_); rintro e w5 ⟨k, rfl, hk, r5, g5⟩; obtain ⟨z, hz1, hz2, hz3⟩ := two_lit (-1) y k (-1) 21 (by omega) (by omega) (by omega) (by omega) (by omega); have hz4 := fun t => (cell_new w5 #[.int .i64 (-1), .int .i64 y] t k).trans hz3; clear hk; have hk2 : (k : Int) < 2 := by have := two_lt hz3; omega))
    all_goals
      go_wp2
      go_ret3
      first
        | exact ⟨x, y, z, rfl, x1, x2, y1, y2, hz1, hz2, below_grow hb (grow_trans (World.grownBy_alloc _ _ _) (ungrow_drew g5)) hB⟩
        | exact ⟨x, y, z, rfl, x1, x2, y1, y2, hz1, hz2, below_grow hb (grow_alloc (ungrow_drew g5) _) hB⟩
  · have c0 : ((m : Int) == 0) = false := by simp; omega
    by_cases hy : y = 1
    · subst hy
      go_wp2_with fail
      refine (pick_use _ B a1 l1 c1 z1 (q + 1) _ r4 (by omega)).mono ?_
      rintro e w5 ⟨k, rfl, hk, r5, g5⟩
      go_wp2
      go_ret3
      exact ⟨x, 1, _, rfl, x1, x2, y1, y2, by omega, by omega, below_grow hb g5 hB⟩
    · have hy2 : 1 < y := by omega
      go_wp2_with fail
      refine (pick_use _ B a1 l1 c1 z1 (q + 1) _ r4 (by omega)).mono ?_
      rintro e w5 ⟨k, rfl, hk, r5, g5⟩
      go_wp2
      go_ret3
      exact ⟨x, y, _, rfl, x1, x2, y1, y2, by omega, by omega, below_grow hb g5 hB⟩

end Go.Proofs.Ytomchjbgnccpnaa
