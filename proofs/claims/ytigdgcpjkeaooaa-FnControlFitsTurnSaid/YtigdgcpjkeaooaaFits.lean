/- Contract of ControlFits of the program. -/
import Derived.Test.YtigdgcpjkeaooaaNear
import Derived.Test.YtigdgcpjkeaooaaSums
import Derived.Test.YtigdgcpjkeaooaaRound
import Derived.Test.YtigdgcpjkeaooaaTotal
import Derived.Test.YtigdgcpjkeaooaaRegF
import Derived.Deep.RegionWith
namespace Go.Proofs.Ytigdgcpjkeaooaa
open Go.RowKit Go.Shelf

attribute [local go_sem] Oper.semAt_some

@[go_sem] theorem wide_fn (f : FuncId) : Fence.wide.fn f = True := rfl

theorem cells_mem {t : List (List Int)} {i j : Nat} (hi : i < t.length) (hj : j < wid t i) : (i, j) ∈ cellsN t := by
  unfold cellsN cellsTo
  rw [List.mem_flatten]
  exact ⟨_, List.mem_map.2 ⟨i, List.mem_range.2 hi, rfl⟩, List.mem_map.2 ⟨j, List.mem_range.2 hj, rfl⟩⟩

theorem IntS.one {w : World} {b : Nat} {z : Int} (h : w.cell? ⟨b, 0, none⟩ = some (.int .i64 z)) : IntS w (fun _ => True) (.slice (some ⟨b, 0, none⟩) 1 1) [z] :=
  ⟨_, _, rfl, Nat.le_refl _, fun i hi => ⟨b, 0, rfl, trivial, by simp at hi; subst hi; simpa using h⟩⟩
theorem boxBel {W W' : World} {b : Nat} {t : TypeId} {v : Value} (h : Boxed W b t v) (hb : Below W.heap.size W W') : Boxed W' b t v := (hb.block b h.lt).trans h

/-- the worlds of a region that makes blocks and sets one box to a result -/
structure RB (B : Nat) (fin : Obj) (w w' : World) : Prop where
  os : w'.os = w.os
  tape : w'.tape = w.tape
  output : w'.output = w.output
  size : w.heap.size ≤ w'.heap.size
  block : ∀ k, k < w.heap.size → k ≠ B → w'.heap[k]? = w.heap[k]?
  box : w'.heap[B]? = w.heap[B]? ∨ w'.heap[B]? = some fin
theorem RB.refl (B : Nat) (fin : Obj) (w : World) : RB B fin w w := ⟨rfl, rfl, rfl, Nat.le_refl _, fun _ _ _ => rfl, .inl rfl⟩
theorem RB.trans {B : Nat} {fin : Obj} {x y z : World} (h : RB B fin x y) (k : RB B fin y z) : RB B fin x z :=
  ⟨k.os.trans h.os, k.tape.trans h.tape, k.output.trans h.output, Nat.le_trans h.size k.size, fun i hi hne => (k.block i (Nat.lt_of_lt_of_le hi h.size) hne).trans (h.block i hi hne), by
    rcases k.box with e | e
    · rcases h.box with e2 | e2
      · exact .inl (e.trans e2)
      · exact .inr (e.trans e2)
    · exact .inr e⟩
theorem RB.alloc {B : Nat} {fin : Obj} (w : World) (hB : B < w.heap.size) (o : Obj) : RB B fin w (w.alloc o) :=
  ⟨rfl, rfl, rfl, by simp, fun k hk _ => Below.heap_alloc w o k hk, .inl (Below.heap_alloc w o B hB)⟩
theorem RB.setB {B : Nat} {w : World} {v u : Value} {ty : TypeId} (_ : B < w.heap.size) (hb : Boxed w B ty u) : RB B (.cells #[v] ty) w (w.setCell ⟨B, 0, none⟩ v) :=
  ⟨rfl, rfl, rfl, by simp, fun k _ hne => Below.heap_setCell _ _ _ _ hne, .inr (hb.set v)⟩
theorem RB.ints {B : Nat} {fin : Obj} {w w' : World} {P : Nat → Prop} {v : Value} {zs : List Int} (h : RB B fin w w') (hi : IntS w P v zs) (hP : ∀ k, P k → k < w.heap.size → k ≠ B) : IntS w' P v zs :=
  hi.kept (fun k hk hl => h.block k hl (hP k hk hl))

def fitF (vr ur vc uc : Value) (base tt tx : Int) (d1 d2 d3 : Bool) (n B : Nat) (fin : Obj) : Nat → Value → World → Prop
  | 0, v, _ => v = vr
  | 1, v, _ => v = ur
  | 2, v, _ => v = .int .i64 base
  | 3, v, _ => v = .bool d1
  | 4, v, _ => v = .bool d1
  | 5, v, _ => d1 = true → v = vc
  | 6, v, _ => d1 = true → v = uc
  | 7, v, _ => d1 = true → v = .int .i64 base
  | 8, v, _ => d1 = true → v = .bool d2
  | 9, v, _ => v = .bool (d1 && d2)
  | 10, v, _ => v = .bool (d1 && d2)
  | 11, v, _ => (d1 && d2) = true → v = vr
  | 12, v, _ => (d1 && d2) = true → v = .int .i64 tt
  | 13, v, w => (d1 && d2) = true → ∃ p, n ≤ p ∧ v = .slice (some ⟨p, 0, none⟩) 1 1 ∧ Boxed w p 3 (.int .i64 tt)
  | 14, v, _ => (d1 && d2) = true → v = ur
  | 15, v, _ => (d1 && d2) = true → v = .int .i64 tx
  | 16, v, w => (d1 && d2) = true → ∃ p, n ≤ p ∧ v = .slice (some ⟨p, 0, none⟩) 1 1 ∧ Boxed w p 3 (.int .i64 tx)
  | 17, v, _ => (d1 && d2) = true → v = .int .i64 base
  | 18, v, _ => (d1 && d2) = true → v = .bool d3
  | 19, v, _ => v = .bool (d1 && d2 && d3)
  | 20, _, w => w.heap[B]? = some fin
  | _, _, _ => True
theorem fitF_stable {vr ur vc uc : Value} {base tt tx : Int} {d1 d2 d3 : Bool} {n B : Nat} {fin : Obj} (hB : B < n) : ∀ i v x y, fitF vr ur vc uc base tt tx d1 d2 d3 n B fin i v x → RB B fin x y → fitF vr ur vc uc base tt tx d1 d2 d3 n B fin i v y := by
  intro i v x y h hr
  unfold fitF at h ⊢
  split <;> first
    | exact h
    | (intro hd; obtain ⟨p, h1, h2, h3⟩ := h hd; exact ⟨p, h1, h2, (hr.block p h3.lt (by omega)).trans h3⟩)
    | (rcases hr.box with e | e; exact e.trans h; exact e)
    | trivial

theorem fits_rect {t x : List (List Int)} {b : Int} (hb : 2 ≤ b) (hb2 : b ≤ 20) (ht : tblOk t) (hs : same t x) (hc : cellsFit t x b) : rectS x := by
  obtain ⟨h1, h2, h3, h4, h5⟩ := ht
  have w0 : wid x 0 = wid t 0 := (hs.2 0 (by omega)).symm
  refine ⟨by rw [← hs.1]; exact h1, by rw [← hs.1]; exact h2, by rw [w0]; exact h3, by rw [w0]; exact h4, fun i hi => ?_⟩
  rw [← hs.1] at hi
  rw [w0]
  refine ⟨by rw [← hs.2 i hi]; exact (h5 i hi).1, fun j hj => ?_⟩
  have := cOk_bd hb hb2 ((h5 i hi).2 j hj).1 ((h5 i hi).2 j hj).2 (hc i hi j hj)
  omega
theorem rowsL_bd {t : List (List Int)} (h : rectS t) (k : Nat) (hk : k < t.length) : -1000000 ≤ (rowsL t)[k]?.getD 0 ∧ (rowsL t)[k]?.getD 0 ≤ 1000000 := by
  rw [rowsL_at hk]
  have h1 := S_nonneg (n := wid t 0) (f := cel t k) (fun j hj => ((h.2.2.2.2 k hk).2 j hj).1)
  have h2 := S_le (n := wid t 0) (f := cel t k) (c := 1000) (fun j hj => ((h.2.2.2.2 k hk).2 j hj).2)
  have := h.2.2.2.1
  omega
theorem colsL_bd {t : List (List Int)} (h : rectS t) (k : Nat) (hk : k < wid t 0) : -1000000 ≤ (colsL t)[k]?.getD 0 ∧ (colsL t)[k]?.getD 0 ≤ 1000000 := by
  rw [colsL_at hk]
  have h1 := S_nonneg (n := t.length) (f := fun i => cel t i k) (fun i hi => ((h.2.2.2.2 i hi).2 k hk).1)
  have h2 := S_le (n := t.length) (f := fun i => cel t i k) (c := 1000) (fun i hi => ((h.2.2.2.2 i hi).2 k hk).2)
  have := h.2.1
  omega
theorem total_bd {t : List (List Int)} (h : rectS t) : 0 ≤ totalT t ∧ totalT t ≤ 1000000 := by
  unfold totalT
  have h0 : ∀ i, i < t.length → 0 ≤ S (wid t 0) (cel t i) ∧ S (wid t 0) (cel t i) ≤ 4000 := fun i hi => by
    have h1 := S_nonneg (n := wid t 0) (f := cel t i) (fun j hj => ((h.2.2.2.2 i hi).2 j hj).1)
    have h2 := S_le (n := wid t 0) (f := cel t i) (c := 1000) (fun j hj => ((h.2.2.2.2 i hi).2 j hj).2)
    have := h.2.2.2.1
    omega
  have h1 := S_nonneg (n := t.length) (f := fun i => S (wid t 0) (cel t i)) (fun i hi => (h0 i hi).1)
  have h2 := S_le (n := t.length) (f := fun i => S (wid t 0) (cel t i)) (c := 4000) (fun i hi => (h0 i hi).2)
  have := h.2.1
  omega
theorem near_rows {t x : List (List Int)} {b : Int} (hl : t.length = x.length) (hw : wid t 0 = wid x 0) : nearL (rowsL t) (rowsL x) b ↔ ∀ i, i < t.length → nr b (S (wid t 0) (cel t i)) (S (wid t 0) (cel x i)) := by
  unfold nearL
  rw [rowsL_len]
  exact ⟨fun h i hi => by have := h i hi; rwa [rowsL_at hi, rowsL_at (hl ▸ hi), ← hw] at this, fun h i hi => by rw [rowsL_at hi, rowsL_at (hl ▸ hi), ← hw]; exact h i hi⟩
theorem near_cols {t x : List (List Int)} {b : Int} (hl : t.length = x.length) (hw : wid t 0 = wid x 0) : nearL (colsL t) (colsL x) b ↔ ∀ j, j < wid t 0 → nr b (S t.length (fun i => cel t i j)) (S t.length (fun i => cel x i j)) := by
  unfold nearL
  rw [colsL_len]
  exact ⟨fun h i hi => by have := h i hi; rwa [colsL_at hi, colsL_at (hw ▸ hi), ← hl] at this, fun h i hi => by rw [colsL_at hi, colsL_at (hw ▸ hi), ← hl]; exact h i hi⟩
theorem near_one {y z b : Int} : nearL [y] [z] b ↔ nr b y z :=
  ⟨fun h => h 0 (by simp), fun h k hk => by simp at hk; subst hk; exact h⟩

theorem fits_res {w : World} {tmps : Array Value} {b : Nat} {v : Value} (ht : tmps.getD 6 undef = .pointer (some ⟨b, 0, none⟩)) (hb : w.cell? ⟨b, 0, none⟩ = some v) :
    (results Try.f7 tmps).run Try.prog w = .ok v w := by
  have ht' : tmps[6]?.getD undef = .pointer (some ⟨b, 0, none⟩) := by simpa using ht
  simp [results, Try.f7, go_sem, ht', hb]

set_option maxRecDepth 100000 in
set_option maxHeartbeats 4000000 in
theorem iFits (w : World) (P Q : Nat → Prop) (vt vx : Value) (t x : List (List Int)) (base : Int) (ht : IntSS w P vt t) (hx : IntSS w Q vx x) (lt : lensT t) (lx : lensT x) :
    Calls Try.prog 7 #[vt, vx, .int .i64 base] w fun e w' => e = .returned (.bool (decide (Fits t x base))) ∧ Below w.heap.size w w' := by
  have HT := Lib.hid ht
  have HX := Lib.hid hx
  have LT := Lib.hid lt
  have LX := Lib.hid lx
  obtain ⟨xt, ct, rfl, _, _⟩ := ht
  obtain ⟨xx, cx, rfl, _, _⟩ := hx
  clear lt lx
  refine (callsIn_wide (n := 6)).1 ?_
  refine callsIn_of_wp_marks Try.func7 rfl trivial ?_ rfl
  simp only [Try.ntmps7, List.size_toArray, List.length_cons, List.length_nil, Nat.reduceAdd, Nat.reduceSub, Array.replicate_succ, Array.replicate_zero, List.push_toArray, List.append_toArray, List.nil_append, List.cons_append]
  refine wpIn_noFail (wpIn_wide.2 ?_)
  go_wp2_with fail
  obtain ⟨W0, hW0⟩ : ∃ W0, W0 = (((w.alloc (.cells #[.slice xt t.length ct] 23)).alloc (.cells #[.slice xx x.length cx] 23)).alloc (.cells #[.int .i64 base] 3)).alloc (.cells #[.bool false] 4) := ⟨_, rfl⟩
  have kT : Boxed W0 w.heap.size 23 (.slice xt t.length ct) := by rw [hW0]; exact (((Boxed.new w _ _).alloc _).alloc _).alloc _
  have kX : Boxed W0 (w.heap.size + 1) 23 (.slice xx x.length cx) := by
    rw [hW0]; have := ((Boxed.new (w.alloc (.cells #[.slice xt t.length ct] 23)) 23 (.slice xx x.length cx)).alloc (.cells #[.int .i64 base] 3)).alloc (.cells #[.bool false] 4)
    rw [World.size_alloc] at this; exact this
  have kB : Boxed W0 (w.heap.size + 2) 3 (.int .i64 base) := by
    rw [hW0]; have := (Boxed.new ((w.alloc (.cells #[.slice xt t.length ct] 23)).alloc (.cells #[.slice xx x.length cx] 23)) 3 (.int .i64 base)).alloc (.cells #[.bool false] 4)
    rw [World.size_alloc, World.size_alloc] at this; exact this
  have kF : Boxed W0 (w.heap.size + 3) 4 (.bool false) := by
    rw [hW0]; have := Boxed.new (((w.alloc (.cells #[.slice xt t.length ct] 23)).alloc (.cells #[.slice xx x.length cx] 23)).alloc (.cells #[.int .i64 base] 3)) 4 (.bool false)
    rw [World.size_alloc, World.size_alloc, World.size_alloc] at this; exact this
  have hs0 : W0.heap.size = w.heap.size + 4 := by rw [hW0]; simp
  have hB0 : Below w.heap.size w W0 := by rw [hW0]; exact ((((Below.refl _ w).alloc (Nat.le_refl _) _).alloc (by simp) _).alloc (by simp; omega) _).alloc (by simp; omega) _
  rw [← hW0]
  clear hW0
  have kc1 := kT.cell
  have kc2 := kX.cell
  have kc3 := kB.cell
  have kc4 := kF.cell
  have kf4 := kF.frozen
  with_reducible refine (iTableValid _ _ _ t (HT.out.below hB0) LT.out).mono ?_
  rintro e w' ⟨rfl, rfl⟩
  by_cases hok : tblOk t
  · have D1 : Hid (decide (tblOk t) = true) := by simpa [Hid] using hok
    rw [D1.out]
    by_cases hb : 2 ≤ base ∧ base ≤ 20
    · obtain ⟨hb1, hb2⟩ := hb
      go_wp2_with fail
      with_reducible refine (iIsBase_t _ _ hb1 hb2).mono ?_
      rintro e w' ⟨rfl, rfl⟩
      go_wp2_with fail
      with_reducible refine (iSame _ _ _ _ _ t x (HT.out.below hB0) (HX.out.below hB0) LT.out LX.out).mono ?_
      rintro e w' ⟨rfl, rfl⟩
      by_cases hsm : same t x
      · have D2 : Hid (decide (same t x) = true) := by simpa [Hid] using hsm
        rw [D2.out]
        have OK := Lib.hid hok
        have SM := Lib.hid hsm
        clear hok hsm
        go_wp2_with fail
        refine (callsIn_wide.1 (cellsOf_in Fence.wide 6 trivial rfl _ _ _ _)).mono ?_
        rintro e w2 ⟨rfl, rfl⟩
        go_wp2_with fail
        refine (wpIn_wide (n := 6)).1 ?_
        have hB1 : Below w.heap.size w (W0.alloc (.cells #[.slice xt t.length ct] 23)) := hB0.alloc hB0.size _
        have bN := Boxed.new W0 23 (.slice xt t.length ct)
        have HA2 : IntSS (W0.alloc (.cells #[.slice xt t.length ct] 23)) (· < w.heap.size) (.slice xt t.length ct) t := (HT.out.mono (fun _ _ h => h)).below hB1
        rw [hs0] at bN
        refine wpIn_rangeFunc_ownG rfl (by omega) (gf := 42) (lb := #[.pointer (some ⟨w.heap.size + 4, 0, none⟩)]) rfl trivial (enters_of Try.func42 (by kernel_rfl) rfl)
          (cells_stops Fence.wide (6 - 1) trivial rfl (by omega) (w.heap.size + 4) w.heap.size _ t LT.out _ (by simp; omega) bN.cell HA2) belowK_t (belowK_b (by simp; omega)) (Below.refl _ _) (fun _ => rfl)
          (fun pre W => (Boxed W w.heap.size 23 (.slice xt t.length ct) ∧ Boxed W (w.heap.size + 1) 23 (.slice xx x.length cx) ∧ Boxed W (w.heap.size + 2) 3 (.int .i64 base) ∧ Boxed W (w.heap.size + 3) 4 (.bool false) ∧ Hid (∀ p ∈ pre.map Subtype.val, cOk base (cel t p.1 p.2) (cel x p.1 p.2))) ∧ Below w.heap.size w W)
          (fun c _ W => (c = .ret ∧ Boxed W (w.heap.size + 3) 4 (.bool false) ∧ Hid (¬ Fits t x base)) ∧ Below w.heap.size w W)
          (OwnFrom.and (Own.from (fun s A B row hs hg hr => ⟨boxKept hs.1 hg hr, boxKept hs.2.1 hg hr, boxKept hs.2.2.1 hg hr, boxKept hs.2.2.2.1 hg hr, hs.2.2.2.2⟩) _) (ownFrom_below (Nat.le_refl _) (by simp; omega)))
          (fun c => OwnFrom.and (Own.from (fun s A B row hs hg hr => ⟨hs.1, boxKept hs.2.1 hg hr, hs.2.2⟩) _) (ownFrom_below (Nat.le_refl _) (by simp; omega)))
          ⟨⟨kT.alloc _, kX.alloc _, kB.alloc _, kF.alloc _, fun p hp => by simp at hp⟩, hB1⟩
          (fun p => { tmps := #[.slice xt t.length ct, .slice xx x.length cx, .int .i64 base, .pointer (some ⟨w.heap.size, 0, none⟩), .pointer (some ⟨w.heap.size + 1, 0, none⟩), .pointer (some ⟨w.heap.size + 2, 0, none⟩), .pointer (some ⟨w.heap.size + 3, 0, none⟩), .int .i64 (p.1.1 : Int), .int .i64 (p.1.2 : Int), undef, undef, undef, undef, undef, .slice xt t.length ct, .bool true, .bool false, .bool false, .int .i64 base, .bool true, .bool false, .bool false, .bool false, .slice xt t.length ct, .slice xx x.length cx, .bool true, .bool false, .bool false, .slice xt t.length ct, .func (.func 42) #[] #[.pointer (some ⟨w.heap.size + 4, 0, none⟩)], .int .i64 (p.1.1 : Int), .int .i64 (p.1.2 : Int), undef, undef, undef, undef, undef, undef, undef, undef, undef, undef, undef, undef, undef, undef, undef, undef, undef, undef, undef, undef, undef, undef, undef, undef, undef, undef, undef, undef, undef, undef, undef, undef, undef, undef, undef, undef, undef, undef, undef, undef, undef, undef, undef, undef, undef, undef, undef, undef, undef, undef, undef, undef, undef, undef, undef, undef, undef, undef, undef, undef, undef, undef, undef, undef, undef, undef, undef, undef, undef, undef, undef, undef], defers := [] }) ?assign ?body ?done ?stop
        case assign =>
          intro l p W K hK
          gi_wp2
          exact hK
        case body =>
          rintro l pre ⟨⟨i, j⟩, hi, hj⟩ W ⟨⟨kA, kX, kB, kF, hpre⟩, hB⟩ _
          simp only at hi hj
          have hj2 : j < wid x i := by rw [← SM.out.2 i hi]; exact hj
          have hi2 : i < x.length := by rw [← SM.out.1]; exact hi
          obtain ⟨b1, o1, b2, o2, c1, rfl, _, hc1, hc2⟩ := (HT.out.below hB).at hi hj
          obtain ⟨b3, o3, b4, o4, c3, rfl, _, hc3, hc4⟩ := (HX.out.below hB).at hi2 hj2
          have kc1 := kA.cell
          have kc2 := kX.cell
          have kc3 := kB.cell
          have kc4 := kF.cell
          have kf4 := kF.frozen
          have i1 : (i : Int) < (t.length : Int) := by omega
          have i2 : (i : Int) < (x.length : Int) := by omega
          have i3 : (j : Int) < (wid t i : Int) := by omega
          have i4 : (j : Int) < (wid x i : Int) := by omega
          have hw0 : wid t i = wid t 0 := (OK.out.2.2.2.2 i hi).1
          have hz := (OK.out.2.2.2.2 i hi).2 j (by omega)
          have hd := dn_bd hb1 hz.1
          have RD : Hid (rdn (cel t i j) base = dn base (cel t i j)) := if_pos ⟨hz.1, by omega, hb1, hb2⟩
          have FT : Hid (¬ cOk base (cel t i j) (cel x i j) → ¬ Fits t x base) := fun h hf => h (hf.2.2.2.1 i hi j (by omega))
          have FN : Hid (cOk base (cel t i j) (cel x i j) → ∀ p ∈ (pre ++ [(⟨(i, j), hi, hj⟩ : Cel t)]).map Subtype.val, cOk base (cel t p.1 p.2) (cel x p.1 p.2)) := by
            intro h p hp
            rw [List.map_append, List.mem_append] at hp
            rcases hp with hp | hp
            · exact hpre p hp
            · simp only [List.map_cons, List.map_nil, List.mem_singleton] at hp; subst hp; exact h
          have CD : Hid (∀ z d c : Int, cOk base c z = cOk base c z) := fun _ _ _ => rfl
          have hpre' := Lib.hid hpre
          clear hpre
          have CO : Hid (cOk base (cel t i j) (cel x i j) ↔ (cel x i j = dn base (cel t i j) ∨ (cel x i j = dn base (cel t i j) + base ∧ cel t i j ≠ dn base (cel t i j)))) := Iff.rfl
          generalize hpp : cOk base (cel t i j) (cel x i j) = pp at *
          clear hpp
          generalize cel t i j = za at *
          generalize cel x i j = zb at *
          generalize dn base za = dz at *
          gi_wp2
          refine quiet_round (F := Fence.wide) rfl (by kernel_rfl) (by kernel_rfl) (by kernel_rfl) ?_
          repeat (gi_big_quiet_step ((gi_at_call 23; exact CallsIn.quiet_of_same (F := Fence.wide) (callsIn_wide.2 ((iRoundDown za base dz _ RD).mono (fun e w' h => ⟨h.1, h.2.symm⟩))))))
          refine wpQuietIn_nil ?_
          intro _ hw'
          obtain ⟨nq, hw''⟩ := hw'
          subst hw''
          by_cases e1 : zb = dz
          · have e1' : (zb != dz) = false := by simp [e1]
            gi_wp2
            refine quiet_round (F := Fence.wide) rfl (by kernel_rfl) (by kernel_rfl) (by kernel_rfl) ?_
            repeat (gi_big_quiet_step (fail))
            refine wpQuietIn_nil ?_
            intro _ hw'
            obtain ⟨nq, hw''⟩ := hw'
            subst hw''
            gi_wp2
            refine ⟨⟨Nat.le_refl _, fun k o _ hk ho => hk⟩, belowDraws (belowDraws (Below.refl _ W) _) _, ⟨kA, kX, kB, kF, FN.out (CO.out.2 (.inl e1))⟩, belowDraws (belowDraws hB _) _⟩
          · have e1' : (zb != dz) = true := bne_iff_ne.2 e1
            have E1 := Lib.hid e1
            clear e1
            by_cases e2 : zb = dz + base
            · have E2 := Lib.hid e2
              have e2' : (zb != dz + base) = false := by simp [e2]
              clear e2
              by_cases e3 : za = dz
              · have e3' : (za == dz) = true := beq_iff_eq.2 e3
                gi_wp2
                refine quiet_round (F := Fence.wide) rfl (by kernel_rfl) (by kernel_rfl) (by kernel_rfl) ?_
                repeat (gi_big_quiet_step (fail))
                refine wpQuietIn_nil ?_
                intro _ hw'
                obtain ⟨nq, hw''⟩ := hw'
                subst hw''
                gi_wp2
                refine ⟨⟨(KeepsOthers.setCell _ _ _).size, fun k o _ hk ho => (KeepsOthers.setCell (W.drewN _) _ _).same k o hk ho⟩, ⟨rfl, (boxDraws kF _).set _, FT.out (fun h => (CO.out.1 h).elim E1.out (fun h => h.2 e3))⟩, (belowDraws hB _).setCell (p := ⟨w.heap.size + 3, 0, none⟩) (by simp) _⟩
              · have e3' : (za == dz) = false := beq_eq_false_iff_ne.2 e3
                gi_wp2
                refine quiet_round (F := Fence.wide) rfl (by kernel_rfl) (by kernel_rfl) (by kernel_rfl) ?_
                repeat (gi_big_quiet_step (fail))
                refine wpQuietIn_nil ?_
                intro _ hw'
                obtain ⟨nq, hw''⟩ := hw'
                subst hw''
                gi_wp2
                refine ⟨⟨Nat.le_refl _, fun k o _ hk ho => hk⟩, belowDraws (belowDraws (Below.refl _ W) _) _, ⟨kA, kX, kB, kF, FN.out (CO.out.2 (.inr ⟨E2.out, e3⟩))⟩, belowDraws (belowDraws hB _) _⟩
            · have e2' : (zb != dz + base) = true := bne_iff_ne.2 e2
              gi_wp2
              refine quiet_round (F := Fence.wide) rfl (by kernel_rfl) (by kernel_rfl) (by kernel_rfl) ?_
              repeat (gi_big_quiet_step (fail))
              refine wpQuietIn_nil ?_
              intro _ hw'
              obtain ⟨nq, hw''⟩ := hw'
              subst hw''
              gi_wp2
              refine ⟨⟨(KeepsOthers.setCell _ _ _).size, fun k o _ hk ho => (KeepsOthers.setCell (W.drewN _) _ _).same k o hk ho⟩, ⟨rfl, (boxDraws kF _).set _, FT.out (fun h => (CO.out.1 h).elim E1.out (fun h => e2 h.1))⟩, (belowDraws hB _).setCell (p := ⟨w.heap.size + 3, 0, none⟩) (by simp) _⟩
        case done =>
          rintro D ys W hD hys ⟨⟨kA, kX, kB, kF, hall⟩, hB⟩ hK
          have hD' : Hid (w.heap.size ≤ D) := by unfold Hid; simp at hD; omega
          have HC : Hid (cellsFit t x base) := by
            intro i hi j hj
            have hw0 : wid t i = wid t 0 := (OK.out.2.2.2.2 i hi).1
            exact hall.out (i, j) (by rw [hys]; exact cells_mem hi (by omega))
          have RX := Lib.hid (fits_rect hb1 hb2 OK.out SM.out HC.out)
          have RT := Lib.hid OK.out.rectS
          have W0E : Hid (wid t 0 = wid x 0) := SM.out.2 0 (by have := OK.out.1; omega)
          have kc1 := kA.cell
          go_wp2_with fail
          with_reducible refine (iSumsOf _ _ _ t (HT.out.below hB) OK.out.rectS).mono ?_
          rintro e w1 ⟨vr, vc, rfl, O1, O2, hB1⟩
          have kX1 := boxBel kX hB1
          have kB1 := boxBel kB hB1
          have kF1 := boxBel kF hB1
          have hK1 : w1.heap[D]? = some (.deferred (some [])) := (hB1.block D (Array.getElem?_eq_some_iff.1 hK).1).trans hK
          have hBB := hB.trans (hB1.mono hB.size)
          have kc2 := kX1.cell
          go_wp2_with fail
          with_reducible refine (iSumsOf _ _ _ x (HX.out.below hBB) RX.out).mono ?_
          rintro e w2 ⟨ur, uc, rfl, O3, O4, hB2⟩
          have kB2 := boxBel kB1 hB2
          have kF2 := boxBel kF1 hB2
          have hK2 : w2.heap[D]? = some (.deferred (some [])) := (hB2.block D (Array.getElem?_eq_some_iff.1 hK1).1).trans hK1
          have hBC := Lib.hid (hBB.trans (hB2.mono hBB.size))
          have I1 := Lib.hid (O1.ints.below hB2)
          have I2 := Lib.hid (O2.ints.below hB2)
          have I3 := Lib.hid O3.ints
          have I4 := Lib.hid O4.ints
          have kc3 := kB2.cell
          have kc4 := kF2.cell
          have kf4 := kF2.frozen
          have hBW : Hid (w.heap.size + 3 < W.heap.size) := kF.lt
          have hW1 : Hid (W.heap.size ≤ w1.heap.size) := hB1.size
          have hW2 : Hid (w1.heap.size ≤ w2.heap.size) := hB2.size
          clear kA kX kB kF kX1 kB1 kF1 hK hK1 O1 O2 O3 O4 hB1 hB2 hall kc1 kc2 hys hBB hB hD
          have N1 : Hid (nearL (rowsL t) (rowsL x) base ↔ ∀ i, i < t.length → nr base (S (wid t 0) (cel t i)) (S (wid t 0) (cel x i))) := near_rows SM.out.1 W0E.out
          have N2 : Hid (nearL (colsL t) (colsL x) base ↔ ∀ j, j < wid t 0 → nr base (S t.length (fun i => cel t i j)) (S t.length (fun i => cel x i j))) := near_cols SM.out.1 W0E.out
          have T1 := Lib.hid (tot_rowsL RT.out)
          have T2 := Lib.hid (tot_rowsL RX.out)
          have FF : Hid (Fits t x base ↔ nearL (rowsL t) (rowsL x) base ∧ nearL (colsL t) (colsL x) base ∧ nearL [totalT t] [totalT x] base) := by
            unfold Hid
            rw [N1.out, N2.out, near_one]
            exact ⟨fun h => h.2.2.2.2, fun h => ⟨OK.out, ⟨hb1, hb2⟩, SM.out, HC.out, h⟩⟩
          have C1 : ∀ W' : World, IntS W' (W.heap.size ≤ ·) vr (rowsL t) → IntS W' (w1.heap.size ≤ ·) ur (rowsL x) → Calls Try.prog 25 #[vr, ur, .int .i64 base] W' fun e w' => e = .returned (.bool (decide (nearL (rowsL t) (rowsL x) base))) ∧ W' = w' := fun W' h1 h2 =>
            iNear W' _ _ vr ur _ _ base h1 h2 (by rw [rowsL_len, rowsL_len]; exact SM.out.1) (by rw [rowsL_len]; have := RT.out.2.1; omega) (fun k hk => rowsL_bd RT.out k (by rwa [rowsL_len] at hk)) (fun k hk => rowsL_bd RX.out k (by rw [← SM.out.1]; rwa [rowsL_len] at hk))
          have C2 : ∀ W' : World, IntS W' (W.heap.size ≤ ·) vc (colsL t) → IntS W' (w1.heap.size ≤ ·) uc (colsL x) → Calls Try.prog 25 #[vc, uc, .int .i64 base] W' fun e w' => e = .returned (.bool (decide (nearL (colsL t) (colsL x) base))) ∧ W' = w' := fun W' h1 h2 =>
            iNear W' _ _ vc uc _ _ base h1 h2 (by rw [colsL_len, colsL_len]; exact W0E.out) (by rw [colsL_len]; have := RT.out.2.2.2.1; omega) (fun k hk => colsL_bd RT.out k (by rwa [colsL_len] at hk)) (fun k hk => colsL_bd RX.out k (by rw [← W0E.out]; rwa [colsL_len] at hk))
          have C3 : ∀ W' : World, IntS W' (W.heap.size ≤ ·) vr (rowsL t) → Calls Try.prog 26 #[vr] W' fun e w' => e = .returned (.int .i64 (totalT t)) ∧ W' = w' := fun W' h1 => by
            have := iTotal W' _ vr _ h1 (by rw [rowsL_len]; have := RT.out.2.1; omega)
            rwa [T1.out] at this
          have C4 : ∀ W' : World, IntS W' (w1.heap.size ≤ ·) ur (rowsL x) → Calls Try.prog 26 #[ur] W' fun e w' => e = .returned (.int .i64 (totalT x)) ∧ W' = w' := fun W' h1 => by
            have := iTotal W' _ ur _ h1 (by rw [rowsL_len]; have := RX.out.2.1; omega)
            rwa [T2.out] at this
          have C5 : ∀ (W' : World) (p q : Nat), W'.cell? ⟨p, 0, none⟩ = some (.int .i64 (totalT t)) → W'.cell? ⟨q, 0, none⟩ = some (.int .i64 (totalT x)) → Calls Try.prog 25 #[.slice (some ⟨p, 0, none⟩) 1 1, .slice (some ⟨q, 0, none⟩) 1 1, .int .i64 base] W' fun e w' => e = .returned (.bool (decide (nearL [totalT t] [totalT x] base))) ∧ W' = w' := fun W' p q h1 h2 =>
            iNear W' _ _ _ _ [totalT t] [totalT x] base (IntS.one h1) (IntS.one h2) rfl (by simp) (fun k hk => by simp at hk; subst hk; have := total_bd RT.out; simp; omega) (fun k hk => by simp at hk; subst hk; have := total_bd RX.out; simp; omega)
          have HC1 := Lib.hid C1
          have HC2 := Lib.hid C2
          have HC3 := Lib.hid C3
          have HC4 := Lib.hid C4
          have HC5 := Lib.hid C5
          clear C1 C2 C3 C4 C5
          obtain ⟨d1, hd1⟩ : ∃ d, d = decide (nearL (rowsL t) (rowsL x) base) := ⟨_, rfl⟩
          obtain ⟨d2, hd2⟩ : ∃ d, d = decide (nearL (colsL t) (colsL x) base) := ⟨_, rfl⟩
          obtain ⟨d3, hd3⟩ : ∃ d, d = decide (nearL [totalT t] [totalT x] base) := ⟨_, rfl⟩
          have DF : Hid (decide (Fits t x base) = (d1 && d2 && d3)) := by
            unfold Hid
            rw [hd1, hd2, hd3, decide_eq_decide.2 FF.out, Bool.decide_and, Bool.decide_and, Bool.and_assoc]
          rw [← hd1] at HC1
          rw [← hd2] at HC2
          rw [← hd3] at HC5
          have HDF := DF
          clear hd1 hd2 hd3 FF N1 N2
          go_wp2_with fail
          refine region_facts2 (by kernel_rfl) (by kernel_rfl) (by kernel_rfl) (RB (w.heap.size + 3) (.cells #[.bool (d1 && d2 && d3)] 4)) (fitF vr ur vc uc base (totalT t) (totalT x) d1 d2 d3 w2.heap.size (w.heap.size + 3) (.cells #[.bool (d1 && d2 && d3)] 4)) (RB.refl _ _ _) RB.trans (fitF_stable (by have := hBW.out; have := hW1.out; have := hW2.out; omega)) ?step ?fin
          case step =>
            intro a W' hR hf i o ho hdep
            have e10 : a.eval (.tmp 10) = vr := hf 10 (by kernel_rfl)
            have e11 : a.eval (.tmp 11) = vc := hf 11 (by kernel_rfl)
            have e12 : a.eval (.tmp 12) = ur := hf 12 (by kernel_rfl)
            have e13 : a.eval (.tmp 13) = uc := hf 13 (by kernel_rfl)
            have e5 : a.eval (.tmp 5) = .pointer (some ⟨w.heap.size + 2, 0, none⟩) := hf 5 (by kernel_rfl)
            have e6 : a.eval (.tmp 6) = .pointer (some ⟨w.heap.size + 3, 0, none⟩) := hf 6 (by kernel_rfl)
            have lB : w.heap.size + 3 < w2.heap.size := by have := hBW.out; have := hW1.out; have := hW2.out; omega
            have bB : Boxed W' (w.heap.size + 2) 3 (.int .i64 base) := (hR.block _ (show w.heap.size + 2 < w2.heap.size by omega) (by omega)).trans kB2
            have cB := bB.cell
            have pA : ∀ k, W.heap.size ≤ k → k < w2.heap.size → k ≠ w.heap.size + 3 := fun k h _ => by have := hBW.out; omega
            have pB : ∀ k, w1.heap.size ≤ k → k < w2.heap.size → k ≠ w.heap.size + 3 := fun k h _ => by have := hBW.out; have := hW1.out; omega
            have lB2 : w.heap.size + 3 < W'.heap.size := Nat.lt_of_lt_of_le lB hR.size
            rcases i with _ | i
            · cases ho
              exact .inl ⟨rfl, _, rfl, RB.refl _ _ _, e10⟩
            rcases i with _ | i
            · cases ho
              exact .inl ⟨rfl, _, rfl, RB.refl _ _ _, e12⟩
            rcases i with _ | i
            · cases ho
              exact .inl ⟨rfl, op_val (v := .int .i64 base) (w' := W') (by simp [go_sem, evT e5, cB]) ⟨_, rfl, RB.refl _ _ _, rfl⟩⟩
            rcases i with _ | i
            · cases ho
              have h0 : a.eval (.tmp 84) = vr := hdep 0 (by kernel_rfl) _ rfl
              have h1 : a.eval (.tmp 85) = ur := hdep 1 (by kernel_rfl) _ rfl
              have h2 : a.eval (.tmp 86) = .int .i64 base := hdep 2 (by kernel_rfl) _ rfl
              refine .inl ⟨rfl, op_enter (w' := W') (f := 25) (args := #[vr, ur, .int .i64 base]) (by simp [go_sem, evT h0, evT h1, evT h2]) ?_⟩
              refine (HC1.out W' (hR.ints I1.out pA) (hR.ints I3.out pB)).mono ?_
              rintro e w' ⟨rfl, rfl⟩
              exact ⟨_, rfl, _, rfl, RB.refl _ _ _, rfl⟩
            rcases i with _ | i
            · cases ho
              have h3 : a.eval (.tmp 87) = .bool d1 := hdep 3 (by kernel_rfl) _ rfl
              exact .inl ⟨rfl, _, rfl, RB.refl _ _ _, h3⟩
            rcases i with _ | i
            · cases ho
              have hg : a.eval (.tmp 88) = .bool (d1) := hdep 4 (by kernel_rfl) _ rfl
              by_cases g : (d1) = true
              · refine .inl ⟨(wanted_at rfl rfl rfl hg).trans (by simp [g]), ?_⟩
                exact ⟨_, rfl, RB.refl _ _ _, fun _ => e11⟩
              · exact .inr ⟨(wanted_at rfl rfl rfl hg).trans (by simp [g]), RB.refl _ _ _, fun h => absurd h g⟩
            rcases i with _ | i
            · cases ho
              have hg : a.eval (.tmp 88) = .bool (d1) := hdep 4 (by kernel_rfl) _ rfl
              by_cases g : (d1) = true
              · refine .inl ⟨(wanted_at rfl rfl rfl hg).trans (by simp [g]), ?_⟩
                exact ⟨_, rfl, RB.refl _ _ _, fun _ => e13⟩
              · exact .inr ⟨(wanted_at rfl rfl rfl hg).trans (by simp [g]), RB.refl _ _ _, fun h => absurd h g⟩
            rcases i with _ | i
            · cases ho
              have hg : a.eval (.tmp 88) = .bool (d1) := hdep 4 (by kernel_rfl) _ rfl
              by_cases g : (d1) = true
              · refine .inl ⟨(wanted_at rfl rfl rfl hg).trans (by simp [g]), ?_⟩
                exact op_val (v := .int .i64 base) (w' := W') (by simp [go_sem, evT e5, cB]) ⟨_, rfl, RB.refl _ _ _, fun _ => rfl⟩
              · exact .inr ⟨(wanted_at rfl rfl rfl hg).trans (by simp [g]), RB.refl _ _ _, fun h => absurd h g⟩
            rcases i with _ | i
            · cases ho
              have hg : a.eval (.tmp 88) = .bool (d1) := hdep 4 (by kernel_rfl) _ rfl
              by_cases g : (d1) = true
              · refine .inl ⟨(wanted_at rfl rfl rfl hg).trans (by simp [g]), ?_⟩
                have h5 : a.eval (.tmp 89) = vc := hdep 5 (by kernel_rfl) _ rfl g
                have h6 : a.eval (.tmp 90) = uc := hdep 6 (by kernel_rfl) _ rfl g
                have h7 : a.eval (.tmp 91) = .int .i64 base := hdep 7 (by kernel_rfl) _ rfl g
                refine op_enter (w' := W') (f := 25) (args := #[vc, uc, .int .i64 base]) (by simp [go_sem, evT h5, evT h6, evT h7]) ?_
                refine (HC2.out W' (hR.ints I2.out pA) (hR.ints I4.out pB)).mono ?_
                rintro e w' ⟨rfl, rfl⟩
                exact ⟨_, rfl, _, rfl, RB.refl _ _ _, fun _ => rfl⟩
              · exact .inr ⟨(wanted_at rfl rfl rfl hg).trans (by simp [g]), RB.refl _ _ _, fun h => absurd h g⟩
            rcases i with _ | i
            · cases ho
              have h4 : a.eval (.tmp 88) = .bool d1 := hdep 4 (by kernel_rfl) _ rfl
              have h8 : d1 = true → a.eval (.tmp 92) = .bool d2 := hdep 8 (by kernel_rfl) _ rfl
              refine .inl ⟨rfl, op_val (v := .bool (d1 && d2)) (w' := W') ?_ ⟨_, rfl, RB.refl _ _ _, rfl⟩⟩
              cases hd : d1 with
              | true => rw [hd] at h4; simp [go_sem, evT h4, evT (h8 hd)]
              | false => rw [hd] at h4; simp [go_sem, evT h4]
            rcases i with _ | i
            · cases ho
              have h9 : a.eval (.tmp 93) = .bool (d1 && d2) := hdep 9 (by kernel_rfl) _ rfl
              exact .inl ⟨rfl, _, rfl, RB.refl _ _ _, h9⟩
            rcases i with _ | i
            · cases ho
              have hg : a.eval (.tmp 94) = .bool (d1 && d2) := hdep 10 (by kernel_rfl) _ rfl
              by_cases g : (d1 && d2) = true
              · refine .inl ⟨(wanted_at rfl rfl rfl hg).trans (by simp [g]), ?_⟩
                exact ⟨_, rfl, RB.refl _ _ _, fun _ => e10⟩
              · exact .inr ⟨(wanted_at rfl rfl rfl hg).trans (by simp [g]), RB.refl _ _ _, fun h => absurd h g⟩
            rcases i with _ | i
            · cases ho
              have hg : a.eval (.tmp 94) = .bool (d1 && d2) := hdep 10 (by kernel_rfl) _ rfl
              by_cases g : (d1 && d2) = true
              · refine .inl ⟨(wanted_at rfl rfl rfl hg).trans (by simp [g]), ?_⟩
                have h11 : a.eval (.tmp 95) = vr := hdep 11 (by kernel_rfl) _ rfl g
                refine op_enter (w' := W') (f := 26) (args := #[vr]) (by simp [go_sem, evT h11]) ?_
                refine (HC3.out W' (hR.ints I1.out pA)).mono ?_
                rintro e w' ⟨rfl, rfl⟩
                exact ⟨_, rfl, _, rfl, RB.refl _ _ _, fun _ => rfl⟩
              · exact .inr ⟨(wanted_at rfl rfl rfl hg).trans (by simp [g]), RB.refl _ _ _, fun h => absurd h g⟩
            rcases i with _ | i
            · cases ho
              have hg : a.eval (.tmp 94) = .bool (d1 && d2) := hdep 10 (by kernel_rfl) _ rfl
              by_cases g : (d1 && d2) = true
              · refine .inl ⟨(wanted_at rfl rfl rfl hg).trans (by simp [g]), ?_⟩
                have h12 : a.eval (.tmp 96) = .int .i64 (totalT t) := hdep 12 (by kernel_rfl) _ rfl g
                refine op_val (v := .slice (some ⟨W'.heap.size, 0, none⟩) 1 1) (w' := W'.alloc (.cells #[.int .i64 (totalT t)] 3)) ?_ ⟨_, rfl, RB.alloc _ lB2 _, fun _ => ⟨_, hR.size, rfl, Boxed.new _ _ _⟩⟩
                simp [go_sem, evT h12]
              · exact .inr ⟨(wanted_at rfl rfl rfl hg).trans (by simp [g]), RB.refl _ _ _, fun h => absurd h g⟩
            rcases i with _ | i
            · cases ho
              have hg : a.eval (.tmp 94) = .bool (d1 && d2) := hdep 10 (by kernel_rfl) _ rfl
              by_cases g : (d1 && d2) = true
              · refine .inl ⟨(wanted_at rfl rfl rfl hg).trans (by simp [g]), ?_⟩
                exact ⟨_, rfl, RB.refl _ _ _, fun _ => e12⟩
              · exact .inr ⟨(wanted_at rfl rfl rfl hg).trans (by simp [g]), RB.refl _ _ _, fun h => absurd h g⟩
            rcases i with _ | i
            · cases ho
              have hg : a.eval (.tmp 94) = .bool (d1 && d2) := hdep 10 (by kernel_rfl) _ rfl
              by_cases g : (d1 && d2) = true
              · refine .inl ⟨(wanted_at rfl rfl rfl hg).trans (by simp [g]), ?_⟩
                have h14 : a.eval (.tmp 98) = ur := hdep 14 (by kernel_rfl) _ rfl g
                refine op_enter (w' := W') (f := 26) (args := #[ur]) (by simp [go_sem, evT h14]) ?_
                refine (HC4.out W' (hR.ints I3.out pB)).mono ?_
                rintro e w' ⟨rfl, rfl⟩
                exact ⟨_, rfl, _, rfl, RB.refl _ _ _, fun _ => rfl⟩
              · exact .inr ⟨(wanted_at rfl rfl rfl hg).trans (by simp [g]), RB.refl _ _ _, fun h => absurd h g⟩
            rcases i with _ | i
            · cases ho
              have hg : a.eval (.tmp 94) = .bool (d1 && d2) := hdep 10 (by kernel_rfl) _ rfl
              by_cases g : (d1 && d2) = true
              · refine .inl ⟨(wanted_at rfl rfl rfl hg).trans (by simp [g]), ?_⟩
                have h15 : a.eval (.tmp 99) = .int .i64 (totalT x) := hdep 15 (by kernel_rfl) _ rfl g
                refine op_val (v := .slice (some ⟨W'.heap.size, 0, none⟩) 1 1) (w' := W'.alloc (.cells #[.int .i64 (totalT x)] 3)) ?_ ⟨_, rfl, RB.alloc _ lB2 _, fun _ => ⟨_, hR.size, rfl, Boxed.new _ _ _⟩⟩
                simp [go_sem, evT h15]
              · exact .inr ⟨(wanted_at rfl rfl rfl hg).trans (by simp [g]), RB.refl _ _ _, fun h => absurd h g⟩
            rcases i with _ | i
            · cases ho
              have hg : a.eval (.tmp 94) = .bool (d1 && d2) := hdep 10 (by kernel_rfl) _ rfl
              by_cases g : (d1 && d2) = true
              · refine .inl ⟨(wanted_at rfl rfl rfl hg).trans (by simp [g]), ?_⟩
                exact op_val (v := .int .i64 base) (w' := W') (by simp [go_sem, evT e5, cB]) ⟨_, rfl, RB.refl _ _ _, fun _ => rfl⟩
              · exact .inr ⟨(wanted_at rfl rfl rfl hg).trans (by simp [g]), RB.refl _ _ _, fun h => absurd h g⟩
            rcases i with _ | i
            · cases ho
              have hg : a.eval (.tmp 94) = .bool (d1 && d2) := hdep 10 (by kernel_rfl) _ rfl
              by_cases g : (d1 && d2) = true
              · refine .inl ⟨(wanted_at rfl rfl rfl hg).trans (by simp [g]), ?_⟩
                obtain ⟨p, _, h13, b13⟩ : ∃ p, w2.heap.size ≤ p ∧ a.eval (.tmp 97) = .slice (some ⟨p, 0, none⟩) 1 1 ∧ Boxed W' p 3 (.int .i64 (totalT t)) := hdep 13 (by kernel_rfl) _ rfl g
                obtain ⟨q, _, h16, b16⟩ : ∃ p, w2.heap.size ≤ p ∧ a.eval (.tmp 100) = .slice (some ⟨p, 0, none⟩) 1 1 ∧ Boxed W' p 3 (.int .i64 (totalT x)) := hdep 16 (by kernel_rfl) _ rfl g
                have h17 : a.eval (.tmp 101) = .int .i64 base := hdep 17 (by kernel_rfl) _ rfl g
                refine op_enter (w' := W') (f := 25) (args := #[.slice (some ⟨p, 0, none⟩) 1 1, .slice (some ⟨q, 0, none⟩) 1 1, .int .i64 base]) (by simp [go_sem, evT h13, evT h16, evT h17]) ?_
                refine (HC5.out W' p q b13.cell b16.cell).mono ?_
                rintro e w' ⟨rfl, rfl⟩
                exact ⟨_, rfl, _, rfl, RB.refl _ _ _, fun _ => rfl⟩
              · exact .inr ⟨(wanted_at rfl rfl rfl hg).trans (by simp [g]), RB.refl _ _ _, fun h => absurd h g⟩
            rcases i with _ | i
            · cases ho
              have h10 : a.eval (.tmp 94) = .bool (d1 && d2) := hdep 10 (by kernel_rfl) _ rfl
              have h18 : (d1 && d2) = true → a.eval (.tmp 102) = .bool d3 := hdep 18 (by kernel_rfl) _ rfl
              refine .inl ⟨rfl, op_val (v := .bool (d1 && d2 && d3)) (w' := W') ?_ ⟨_, rfl, RB.refl _ _ _, rfl⟩⟩
              cases hd : (d1 && d2) with
              | true => rw [hd] at h10; simp [go_sem, evT h10, evT (h18 hd)]
              | false => rw [hd] at h10; simp [go_sem, evT h10]
            rcases i with _ | i
            · cases ho
              have h19 : a.eval (.tmp 103) = .bool (d1 && d2 && d3) := hdep 19 (by kernel_rfl) _ rfl
              obtain ⟨bv, hbv⟩ : ∃ bv, Boxed W' (w.heap.size + 3) 4 (.bool bv) := by
                rcases hR.box with e | e
                · exact ⟨_, e.trans kF2⟩
                · exact ⟨_, e⟩
              have k1 := hbv.cell
              have k2 := hbv.frozen
              refine .inl ⟨rfl, op_skip (w' := W'.setCell ⟨w.heap.size + 3, 0, none⟩ (.bool (d1 && d2 && d3))) ?_ ⟨_, rfl, RB.setB lB2 hbv, hbv.set _⟩⟩
              simp [go_sem, evT h19, evT e6, k1, k2]
            · cases ho
          case fin =>
            intro a W' hsz hdf hR hold hfact
            have e6 : a.tmps.getD 6 undef = .pointer (some ⟨w.heap.size + 3, 0, none⟩) := hold 6 (by kernel_rfl)
            have hbx : Boxed W' (w.heap.size + 3) 4 (.bool (d1 && d2 && d3)) := hfact 20 _ rfl
            have hDl : D < w2.heap.size := (Array.getElem?_eq_some_iff.1 hK2).1
            have hDB : D ≠ w.heap.size + 3 := fun e => by rw [e, show w2.heap[w.heap.size + 3]? = _ from kF2] at hK2; cases hK2
            have hKD : W'.heap[D]? = some (.deferred (some [])) := (hR.block D hDl hDB).trans hK2
            have hbP : Boxed (W'.putObj D (.deferred none)) (w.heap.size + 3) 4 (.bool (d1 && d2 && d3)) := boxKept hbx (grownBy_putObj' _ _ _) (fun r hr => by cases hr; exact ⟨_, hKD, rfl⟩)
            obtain ⟨tmps, defers⟩ := a
            clear hfact hold
            go_wp2_with fail
            have hBe : Below w.heap.size w W' := hBC.out.trans ⟨hR.os, hR.tape, hR.output, hR.size, fun k hk => hR.block k (show k < w2.heap.size by have := hBC.out.size; omega) (by omega)⟩
            refine ⟨by simp, .inl ⟨_, _, rfl, run_takeDeferred hKD, ?_⟩⟩
            refine ⟨.bool (d1 && d2 && d3), fits_res e6 hbP.cell, ?_, hBe.trans (belowK_b (w := w) (Nat.le_refl _) W' D _ _ hD'.out hKD rfl rfl)⟩
            rw [HDF.out]
        case stop =>
          rintro D c pre W h1 h2 ⟨⟨rfl, kF, hnf⟩, hB⟩ h4
          have kc4 := kF.cell
          have kF' : Boxed (W.putObj D (.deferred none)) (w.heap.size + 3) 4 (.bool false) := boxKept kF (grownBy_putObj' _ _ _) (fun r hr => by cases hr; exact ⟨_, h4, rfl⟩)
          gi_wp2
          refine ⟨by simp, .inl ⟨_, _, rfl, run_takeDeferred h4, ?_⟩⟩
          refine ⟨.bool false, fits_res (by rfl) kF'.cell, ?_, hB.trans (belowK_b (w := w) (Nat.le_refl _) W D _ _ (by simp at h1; omega) h4 rfl rfl)⟩
          rw [decide_eq_false hnf.out]
      · have D2 : Hid (decide (same t x) = false) := by simpa [Hid] using hsm
        rw [D2.out]
        go_wp2_with fail
        refine ⟨.bool false, fits_res (by rfl) (kF.set _).cell, ?_, hB0.setCell (p := ⟨w.heap.size + 3, 0, none⟩) (by simp) _⟩
        rw [decide_eq_false (fun h : Fits t x base => hsm h.2.2.1)]
    · have hb' : base < 2 ∨ 20 < base := by omega
      go_wp2_with fail
      with_reducible refine (iIsBase_f _ _ hb').mono ?_
      rintro e w' ⟨rfl, rfl⟩
      go_wp2_with fail
      refine ⟨.bool false, fits_res (by rfl) (kF.set _).cell, ?_, hB0.setCell (p := ⟨w.heap.size + 3, 0, none⟩) (by simp) _⟩
      rw [decide_eq_false (fun h : Fits t x base => by have := h.2.1; omega)]
  · have D1 : Hid (decide (tblOk t) = false) := by simpa [Hid] using hok
    rw [D1.out]
    go_wp2_with fail
    refine ⟨.bool false, fits_res (by rfl) (kF.set _).cell, ?_, hB0.setCell (p := ⟨w.heap.size + 3, 0, none⟩) (by simp) _⟩
    rw [decide_eq_false (fun h : Fits t x base => hok h.1)]

end Go.Proofs.Ytigdgcpjkeaooaa
