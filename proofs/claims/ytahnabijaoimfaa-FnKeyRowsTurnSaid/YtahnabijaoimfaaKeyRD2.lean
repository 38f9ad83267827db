/- The drawing functions of the tables of changes. -/
import Derived.Test.YtahnabijaoimfaaKeyRD
import Derived.Deep.RegionWith
namespace Go.Proofs.Ytahnabijaoimfaa
open Go.RowKit

/-- what the drawing of a table gives to a law -/
def DrawnRows (w : World) (e : Ending) (w' : World) : Prop :=
  ∃ v t us, e = .returned v ∧ OwnU w' w.heap.size v t us ∧ t.length ≤ 4 ∧ Hid (∀ i, i < t.length → 16 ≤ (t[i]?.getD []).length ∧ (t[i]?.getD []).length ≤ 17) ∧ Below w.heap.size w w'

set_option maxHeartbeats 400000 in
theorem drawKeySpread (w : World) (a : Option Addr) (len cap : Nat) (zs : List Int) (h : IsRow .u8 w a len cap zs) :
    Calls Try.prog 23 #[.slice a len cap] w (DrawnRows w) := by
  have H := Lib.hid h; clear h
  go_enter Try.func23, Try.ntmps23
  go_wp2_with fail
  refine (open_any _ _ _ _ _ H.out).mono ?_
  rintro e w1 ⟨B, a1, l1, c1, z1, hB, rfl, r1, b1⟩
  go_wp2_with fail
  refine (sRows _ B _ _ _ _ _ r1 (by omega)).mono ?_
  rintro e w2 ⟨v, t, us, p', rfl, ho, hl, hlens, _, _, _, g2⟩
  have HO := Lib.hid ho
  obtain ⟨g, cp, rfl, hgb, hgs, _, _⟩ := ho.form
  clear ho
  go_wp2_with fail
  go_ret
  exact ⟨_, t, us, rfl, HO.out.mono b1.size, hl, hlens, below_grow b1 g2 hB⟩

/-- an element of a literal of three numbers -/
theorem three_lit (x y z : Int) (k : Nat) (hk : k < 3) : ∃ u, (#[Value.int .i64 x, .int .i64 y, .int .i64 z] : Array Value)[k]? = some (.int .i64 u) := by
  have : k = 0 ∨ k = 1 ∨ k = 2 := by omega
  rcases this with rfl | rfl | rfl
  · exact ⟨x, rfl⟩
  · exact ⟨y, rfl⟩
  · exact ⟨z, rfl⟩

theorem frozen_alloc' {w : World} {p : Addr} {v : Value} (h : w.cell? p = some v) (hf : w.frozen? p = false) : ∀ o, (w.alloc o).frozen? p = false := fun o => by
  rw [← hf]
  exact World.frozen?_of_block ((World.grownBy_alloc w o none).block _ (World.block_lt_of_cell? _ _ h) (by simp))

theorem first_cell {w5 w6 : World} {A B k : Nat} {cs : Array Value} {v : Value} (h : ∀ i v, cs[i]? = some v → w5.cell? ⟨A, i, none⟩ = some v) (hg : w5.grownBy w6 (some B)) (hk : cs[k]? = some v) (hne : A ≠ B) : w6.cell? ⟨A, k, none⟩ = some v :=
  hg.cell (h k v hk) (by simp; omega)

set_option maxHeartbeats 2000000 in
theorem drawKeyRows (w : World) (a : Option Addr) (len cap : Nat) (zs : List Int) (h : IsRow .u8 w a len cap zs) :
    Calls Try.prog 12 #[.slice a len cap] w (DrawnRows w) := by
  have H := Lib.hid h; clear h
  go_enter Try.func12, Try.ntmps12
  go_wp2_with fail
  refine (open_any _ _ _ _ _ H.out).mono ?_
  rintro e w1 ⟨B, a1, l1, c1, z1, hB, rfl, r1, b1⟩
  go_wp2_with fail
  refine (sRows _ B _ _ _ _ _ r1 (by omega)).mono ?_
  rintro e w2 ⟨v, t, us, p', rfl, ho, hl, hlens, hp1, hp2, r2, g2⟩
  have HO := Lib.hid ho
  obtain ⟨g, cp, rfl, hgb, hgs, _, _⟩ := ho.form
  have hb2 := below_grow b1 g2 hB
  have hBs : B < w1.heap.size := r1.lt
  clear ho
  by_cases ht : 1 < t.length
  · go_wp2_with fail
    refine (pick_use _ B a1 l1 c1 z1 _ 6 r2 (by omega)).mono ?_
    rintro e w3 ⟨m, rfl, hm, r3, g3⟩
    have HO3 := Lib.hid (HO.out.kept g3 (fun k e => by cases e; exact hBs))
    have hb3 := below_grow hb2 g3 hB
    by_cases m0 : m = 0
    · subst m0
      obtain ⟨gi, ci, hu, hc, hgi1, hgi2, hgi3, hci1, hci2, hoi⟩ := HO3.out.row (i := 1) (by omega)
      have hl1 := hlens.out 1 (by omega)
      obtain ⟨r0, hr0⟩ : ∃ r0, t[1]?.getD [] = r0 := ⟨_, rfl⟩
      rw [hr0] at hl1 hc hu hci1 hoi
      have HU := Lib.hid hu
      have HR0 := Lib.hid hr0
      have hl1i : (16 : Int) ≤ (r0.length : Int) := by omega
      have h1i : (1 : Int) < (t.length : Int) := by omega
      have h0i : (0 : Int) ≤ 1 := by omega
      have hcA := fun o => (World.grownBy_alloc w3 o none).cell hc (by simp)
      clear hu hr0 hoi hm
      go_wp2_with fail
      have R3 := Lib.hid r3
      clear r3
      go_region_with (first
        | (go_at_call 27; (with_reducible refine (pick_use _ B a1 l1 c1 z1 (p' + 1) 16 ((R3.out.alloc _).drew) (by omega)).mono ?_); rintro e w5 ⟨x, rfl, hx, r5, g5⟩; have hlit := Lib.hid (fun i v hv => cell_lit (ungrow_drew g5) R3.out.lt i v hv); have G5 : Hid (w3.grownBy w5 (some B)) := (grow_trans (World.grownBy_alloc _ _ _) (ungrow_drew g5)); have O5 := Lib.hid (HO3.out.kept G5.out (fun k e => by cases e; exact hBs)); have hc5 := G5.out.cell hc (by simp; omega); have hc5A := fun o => (World.grownBy_alloc w5 o none).cell hc5 (by simp); have R5 := Lib.hid r5; have hx16 : (x : Int) < (r0.length : Int) := (by omega); clear hx g5 r5)
        | (go_at_call 27; (with_reducible refine (pick_use _ B a1 l1 c1 z1 (p' + 1) 16 R3.out.drew (by omega)).mono ?_); rintro e w5 ⟨x, rfl, hx, r5, g5⟩; have nolit : True := trivial; have G5 : Hid (w3.grownBy w5 (some B)) := (ungrow_drew g5); have O5 := Lib.hid (HO3.out.kept G5.out (fun k e => by cases e; exact hBs)); have hc5 := G5.out.cell hc (by simp; omega); have hc5A := fun o => (World.grownBy_alloc w5 o none).cell hc5 (by simp); have R5 := Lib.hid r5; have hx16 : (x : Int) < (r0.length : Int) := (by omega); clear hx g5 r5)
        | (go_at_call 27; (with_reducible refine (pick_use _ B a1 l1 c1 z1 (p' + 1 + 1) 3 (R5.out.alloc _) (by omega)).mono ?_); rintro e w6 ⟨y, rfl, hy, r6, g6⟩; obtain ⟨u, hu3⟩ := three_lit (-2) 11 5 y (by omega); have hz6 := cell_lit g6 R5.out.lt y _ hu3; have G6 : Hid (w5.grownBy w6 (some B)) := (grow_trans (World.grownBy_alloc _ _ _) g6); have O6 := Lib.hid (O5.out.kept G6.out (fun k e => by cases e; exact hBs)); have hc6 := G6.out.cell hc5 (by simp; omega); have hc6A := fun o => (World.grownBy_alloc w6 o none).cell hc6 (by simp); obtain ⟨hzc, hfc⟩ := O6.out.at (i := 1) (by omega) HU.out (j := x) (by rw [HR0.out]; omega); generalize (t[1]?.getD [])[x]?.getD 0 = zc at hzc; have hzA := fun o => (World.grownBy_alloc w6 o none).cell hzc (by simp); have hfA := frozen_alloc' hzc hfc; have hy3 : (y : Int) < 3 := (by omega); clear hy g6 r6 hu3; have hlate : True := trivial)
        | (go_at_call 27; (with_reducible refine (pick_use _ B a1 l1 c1 z1 (p' + 1 + 1) 3 R5.out (by omega)).mono ?_); rintro e w6 ⟨y, rfl, hy, r6, g6⟩; obtain ⟨u, hu3⟩ := three_lit (-2) 11 5 y (by omega); have hz6 := (first_cell hlit.out g6 hu3 (by have := R5.out.lt; omega)); have G6 : Hid (w5.grownBy w6 (some B)) := g6; have O6 := Lib.hid (O5.out.kept G6.out (fun k e => by cases e; exact hBs)); have hc6 := G6.out.cell hc5 (by simp; omega); have hc6A := fun o => (World.grownBy_alloc w6 o none).cell hc6 (by simp); obtain ⟨hzc, hfc⟩ := O6.out.at (i := 1) (by omega) HU.out (j := x) (by rw [HR0.out]; omega); generalize (t[1]?.getD [])[x]?.getD 0 = zc at hzc; have hzA := fun o => (World.grownBy_alloc w6 o none).cell hzc (by simp); have hfA := frozen_alloc' hzc hfc; have hy3 : (y : Int) < 3 := (by omega); clear hy g6 r6 hu3)
        | (go_at_call 27; (with_reducible refine (pick_use _ B a1 l1 c1 z1 (p' + 1 + 1) 3 R5.out (by omega)).mono ?_); rintro e w6 ⟨y, rfl, hy, r6, g6⟩; obtain ⟨u, hu3⟩ := three_lit (-2) 11 5 y (by omega); have hz6 := fun t => (cell_new w6 #[.int .i64 (-2), .int .i64 11, .int .i64 5] t y).trans hu3; have G6 : Hid (w5.grownBy w6 (some B)) := g6; have O6 := Lib.hid (O5.out.kept G6.out (fun k e => by cases e; exact hBs)); have hc6 := G6.out.cell hc5 (by simp; omega); have hc6A := fun o => (World.grownBy_alloc w6 o none).cell hc6 (by simp); obtain ⟨hzc, hfc⟩ := O6.out.at (i := 1) (by omega) HU.out (j := x) (by rw [HR0.out]; omega); generalize (t[1]?.getD [])[x]?.getD 0 = zc at hzc; have hzA := fun o => (World.grownBy_alloc w6 o none).cell hzc (by simp); have hfA := frozen_alloc' hzc hfc; have hy3 : (y : Int) < 3 := (by omega); clear hy g6 r6 hu3))
      all_goals
        go_wp2
        go_ret
        first
          | exact ⟨_, _, us, rfl, (O6.out.set (i := 1) (by omega) HU.out x u).mono b1.size, by simp; omega, lens_set (by omega) hlens.out (by rw [List.length_set, HR0.out]; omega), ((below_grow (below_grow hb3 G5.out hB) G6.out hB).setCell (p := ⟨gi, x, none⟩) (by have := b1.size; simp; omega) _)⟩
          | exact ⟨_, _, us, rfl, ((O6.out.alloc _).set (i := 1) (by omega) HU.out x u).mono b1.size, by simp; omega, lens_set (by omega) hlens.out (by rw [List.length_set, HR0.out]; omega), (((below_grow (below_grow hb3 G5.out hB) G6.out hB).alloc (by have := (below_grow (below_grow hb3 G5.out hB) G6.out hB).size; omega) _).setCell (p := ⟨gi, x, none⟩) (by have := b1.size; simp; omega) _)⟩
    · have c0 : ((m : Int) == 0) = false := by simp; omega
      go_wp2_with fail
      go_ret
      exact ⟨_, t, us, rfl, HO3.out.mono b1.size, hl, hlens, hb3⟩
  · go_wp2_with fail
    go_ret
    exact ⟨_, t, us, rfl, HO.out.mono b1.size, hl, hlens, hb2⟩

/-- what the drawing of a table and a number gives to a law -/
def DrawnMean (w : World) (e : Ending) (w' : World) : Prop :=
  ∃ v t us n, e = .returned (.tuple #[v, .int .i64 n]) ∧ OwnU w' w.heap.size v t us ∧ t.length ≤ 4 ∧ Hid (∀ i, i < t.length → 16 ≤ (t[i]?.getD []).length ∧ (t[i]?.getD []).length ≤ 17) ∧ -1 ≤ n ∧ n ≤ 41 ∧ Below w.heap.size w w'

set_option maxHeartbeats 1000000 in
theorem drawKeyMean (w : World) (a : Option Addr) (len cap : Nat) (zs : List Int) (h : IsRow .u8 w a len cap zs) :
    Calls Try.prog 20 #[.slice a len cap] w (DrawnMean w) := by
  have H := Lib.hid h; clear h
  go_enter Try.func20, Try.ntmps20
  go_wp2_with fail
  refine (open_any _ _ _ _ _ H.out).mono ?_
  rintro e w1 ⟨B, a1, l1, c1, z1, hB, rfl, r1, b1⟩
  go_wp2_with fail
  refine (sRows _ B _ _ _ _ _ r1 (by omega)).mono ?_
  rintro e w2 ⟨v, t, us, p', rfl, ho, hl, hlens, hp1, hp2, r2, g2⟩
  have HO := Lib.hid ho
  obtain ⟨g, cp, rfl, hgb, hgs, _, _⟩ := ho.form
  have hb2 := below_grow b1 g2 hB
  have hBs : B < w1.heap.size := r1.lt
  clear ho
  go_wp2_with fail
  refine (pick_use _ B a1 l1 c1 z1 _ 20 r2 (by omega)).mono ?_
  rintro e w3 ⟨m, rfl, hm, r3, g3⟩
  have HO3 := Lib.hid (HO.out.kept g3 (fun k e => by cases e; exact hBs))
  have hb3 := below_grow hb2 g3 hB
  by_cases m0 : m = 0
  · subst m0
    have R3 := Lib.hid r3
    clear r3 hm
    go_wp2_with fail
    go_region_with (first
      | (go_at_call 27; (with_reducible refine (pick_use _ B a1 l1 c1 z1 (p' + 1) 2 ((R3.out.alloc _).drew) (by omega)).mono ?_); rintro e w5 ⟨k, rfl, hk, r5, g5⟩; obtain ⟨z, hz1, hz2, hz3⟩ := two_lit (-1) 41 k (-1) 41 (by omega) (by omega) (by omega) (by omega) (by omega); have hz4 := cell_lit (ungrow_drew g5) R3.out.lt k _ hz3; have G5 : Hid (w3.grownBy w5 (some B)) := (grow_trans (World.grownBy_alloc _ _ _) (ungrow_drew g5)); clear hk g5; have hk2 : (k : Int) < 2 := by have := two_lt hz3; omega)
      | (go_at_call 27; (with_reducible refine (pick_use _ B a1 l1 c1 z1 (p' + 1) 2 R3.out.drew (by omega)).mono ?_); rintro e w5 ⟨k, rfl, hk, r5, g5⟩; obtain ⟨z, hz1, hz2, hz3⟩ := two_lit (-1) 41 k (-1) 41 (by omega) (by omega) (by omega) (by omega) (by omega); have hz4 := fun t => (cell_new w5 #[.int .i64 (-1), .int .i64 41] t k).trans hz3; have G5 : Hid (w3.grownBy w5 (some B)) := ungrow_drew g5; clear hk g5; have hk2 : (k : Int) < 2 := by have := two_lt hz3; omega))
    all_goals
      go_wp2
      go_ret2
      have O5 := HO3.out.kept G5.out (fun k e => by cases e; exact hBs)
      have B5 := below_grow hb3 G5.out hB
      first
        | exact ⟨_, t, us, z, rfl, O5.mono b1.size, hl, hlens, hz1, hz2, B5⟩
        | exact ⟨_, t, us, z, rfl, (O5.alloc _).mono b1.size, hl, hlens, hz1, hz2, B5.alloc B5.size _⟩
  · have c0 : ((m : Int) == 0) = false := by simp; omega
    go_wp2_with fail
    refine (pick_use _ B a1 l1 c1 z1 _ 8 r3 (by omega)).mono ?_
    rintro e w5 ⟨k, rfl, hk, r5, g5⟩
    have hk8 : k < 8 := by omega
    have O5 := Lib.hid (HO3.out.kept g5 (fun k e => by cases e; exact hBs))
    clear hk hm
    go_wp2_with fail
    go_ret2
    exact ⟨_, t, us, _, rfl, O5.out.mono b1.size, hl, hlens, by omega, by omega, below_grow hb3 g5 hB⟩

end Go.Proofs.Ytahnabijaoimfaa
