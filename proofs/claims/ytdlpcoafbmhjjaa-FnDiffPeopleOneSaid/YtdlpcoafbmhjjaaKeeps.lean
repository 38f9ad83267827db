/- What a step keeps; the law of a range over an iterator that writes its own cells between two rounds. -/
import Derived.RangeFuncCalls
import Derived.Test.YtdlpcoafbmhjjaaCells
import Derived.Test.YtdlpcoafbmhjjaaOwnT2
namespace Go.Proofs.Ytdlpcoafbmhjjaa
open Go.RowKit

/-- the blocks of which Q holds are kept; memory is made -/
structure Keeps (Q : Nat → Prop) (w w' : World) : Prop where
  os : w'.os = w.os
  tape : w'.tape = w.tape
  output : w'.output = w.output
  size : w.heap.size ≤ w'.heap.size
  block : ∀ k, k < w.heap.size → Q k → w'.heap[k]? = w.heap[k]?
theorem Keeps.refl (Q : Nat → Prop) (w : World) : Keeps Q w w := ⟨rfl, rfl, rfl, Nat.le_refl _, fun _ _ _ => rfl⟩
theorem Keeps.trans {Q : Nat → Prop} {x y z : World} (h : Keeps Q x y) (k : Keeps Q y z) : Keeps Q x z :=
  ⟨k.os.trans h.os, k.tape.trans h.tape, k.output.trans h.output, Nat.le_trans h.size k.size, fun i hi hq => (k.block i (Nat.lt_of_lt_of_le hi h.size) hq).trans (h.block i hi hq)⟩
theorem Keeps.mono {Q Q' : Nat → Prop} {x y : World} (h : Keeps Q x y) (hq : ∀ k, k < x.heap.size → Q' k → Q k) : Keeps Q' x y := ⟨h.os, h.tape, h.output, h.size, fun k hk hq' => h.block k hk (hq k hk hq')⟩
theorem Keeps.of_below {Q : Nat → Prop} {x y : World} (h : Below x.heap.size x y) : Keeps Q x y := ⟨h.os, h.tape, h.output, h.size, fun k hk _ => h.block k hk⟩
theorem Keeps.of_grown {Q : Nat → Prop} {x y : World} {row : Option Nat} (h : x.grownBy y row) (hr : ∀ k, row = some k → ¬ Q k) : Keeps Q x y :=
  ⟨h.os, h.tape, h.output, h.size, fun k hk hq => h.block k hk (fun e => hr k e.symm hq)⟩
theorem Keeps.alloc {Q : Nat → Prop} (x : World) (o : Obj) : Keeps Q x (x.alloc o) := .of_grown (World.grownBy_alloc x o none) (by simp)
theorem Keeps.drewN {Q : Nat → Prop} {x y : World} (h : Keeps Q x y) (n : Nat) : Keeps Q x (y.drewN n) := ⟨h.os, h.tape, h.output, h.size, h.block⟩
theorem Keeps.drew {Q : Nat → Prop} {x y : World} (h : Keeps Q x y) : Keeps Q x y.drew := ⟨h.os, h.tape, h.output, h.size, h.block⟩
theorem Keeps.setCell {Q : Nat → Prop} (x : World) (g o : Nat) (v : Value) (hg : ¬ Q g) : Keeps Q x (x.setCell ⟨g, o, none⟩ v) := .of_grown (grow_set (grow_refl _ _) o v) (fun k e hq => by cases e; exact hg hq)
theorem Keeps.below {Q : Nat → Prop} {x y : World} (h : Keeps Q x y) {n : Nat} (hn : n ≤ x.heap.size) (hq : ∀ k, k < n → Q k) : Below n x y := ⟨h.os, h.tape, h.output, h.size, fun k hk => h.block k (by omega) (hq k hk)⟩
theorem Keeps.cell {Q : Nat → Prop} {x y : World} (h : Keeps Q x y) {p : Addr} (hp : p.block < x.heap.size) (hq : Q p.block) : y.cell? p = x.cell? p := World.cell?_of_block (w := x) (h.block p.block hp hq)
theorem Keeps.putObj {Q : Nat → Prop} (x : World) (l : Nat) (o : Obj) (hl : ¬ Q l) : Keeps Q x (x.putObj l o) := .of_grown (grownBy_putObj' x l o) (fun k e hq => by cases e; exact hl hq)

theorem IntS.keeps {w w' : World} {P Q : Nat → Prop} {v : Value} {zs : List Int} (h : IntS w P v zs) (hk : Keeps Q w w') (hq : ∀ k, k < w.heap.size → P k → Q k) : IntS w' P v zs := h.kept (fun k hp hl => hk.block k hl (hq k hl hp))
theorem IntSS.keeps {w w' : World} {P Q : Nat → Prop} {v : Value} {t : List (List Int)} (h : IntSS w P v t) (hk : Keeps Q w w') (hq : ∀ k, k < w.heap.size → P k → Q k) : IntSS w' P v t := h.kept (fun k hp hl => hk.block k hl (hq k hl hp))
theorem boxKeeps {w w' : World} {Q : Nat → Prop} {B : Nat} {t : TypeId} {v : Value} (h : Boxed w B t v) (hk : Keeps Q w w') (hq : Q B) : Boxed w' B t v := (hk.block B h.lt hq).trans h
theorem ownsRow_keeps {w w' : World} {Q : Nat → Prop} {base : Nat} {e : TypeId} {size : Nat} {v : Value} {n : Nat} {xs : List Value} (h : w.ownsRow base e size v n xs) (hk : Keeps Q w w') (hq : ∀ k, v.ownBlock = some k → Q k) : w'.ownsRow base e size v n xs := by
  refine ⟨h.1, ?_⟩
  rcases h.2 with hn | ⟨g, cap, cur, rfl, hb, hg, rest⟩
  · exact .inl hn
  · exact .inr ⟨g, cap, cur, rfl, hb, (hk.block g (Array.getElem?_eq_some_iff.1 hg).1 (hq g rfl)).trans hg, rest⟩
theorem OwnI.keeps {w w' : World} {Q : Nat → Prop} {base : Nat} {v : Value} {zs : List Int} (h : OwnI w base v zs) (hk : Keeps Q w w') (hq : ∀ k, v.ownBlock = some k → Q k) : OwnI w' base v zs := ⟨ownsRow_keeps h.1 hk hq, h.2⟩
theorem OwnU.keeps {w w' : World} {Q : Nat → Prop} {base : Nat} {v : Value} {t : List (List Int)} {us : List Value} (h : OwnU w base v t us) (hk : Keeps Q w w') (hq : ∀ k, blksU v us k → Q k) : OwnU w' base v t us :=
  ⟨h.len, ownsRow_keeps h.outer hk (fun k e => hq k (.inl e)), h.nonnil, fun i hi => (h.rows i hi).keeps hk (fun k e => hq k (.inr ⟨i, by rw [h.len]; exact hi, e⟩)), h.apart, h.beside⟩
/-- a table of one's own reads as its rows, in its own blocks -/
theorem OwnU.intsB {w : World} {base : Nat} {v : Value} {t : List (List Int)} {us : List Value} (h : OwnU w base v t us) : IntSS w (blksU v us) v t := by
  obtain ⟨g, cap, rfl, hb, _, hl, _⟩ := h.form
  refine ⟨_, cap, rfl, hl, fun i hi => ?_⟩
  obtain ⟨gi, ci, hu, hc, _, _, _, hli, _, ho⟩ := h.row hi
  refine ⟨g, 0, some ⟨gi, 0, none⟩, ci, rfl, .inl rfl, by rw [Nat.zero_add]; exact hc, hli, ?_⟩
  obtain ⟨a, c, hv, _, hr⟩ := ho.ints
  cases hv
  intro j hj
  obtain ⟨b, off, e, _, hc⟩ := hr j hj
  cases e
  exact ⟨_, _, rfl, .inr ⟨i, by rw [h.len]; exact hi, by rw [hu]; rfl⟩, hc⟩

theorem blk_cells {W : World} {base : Nat} {v : Value} {t : List (List Int)} {us : List Value} (ho : OwnU W base v t us) {k : Nat} (hk : blksU v us k) : ∃ o : Obj, W.heap[k]? = some o ∧ o.isCells = true := by
  rcases hk with h | ⟨i, hi, h⟩
  · rcases ho.outer.2 with ⟨rfl, _⟩ | ⟨g, cap, cur, rfl, _, hh, _⟩
    · cases h
    · have e : g = k := by simpa [Value.ownBlock] using h
      subst e
      exact ⟨_, hh, rfl⟩
  · have hr := (ho.rows i (by rw [← ho.len]; exact hi)).1
    rcases hr.2 with ⟨e0, _⟩ | ⟨g, cap, cur, e0, _, hh, _⟩
    · rw [e0] at h; cases h
    · rw [e0] at h
      have e : g = k := by simpa [Value.ownBlock] using h
      subst e
      exact ⟨_, hh, rfl⟩
theorem ownU_own {W W' : World} {base : Nat} {v : Value} {t : List (List Int)} {us : List Value} {row : Option Nat} (ho : OwnU W base v t us) (hg : W.grownBy W' row) (hr : ∀ r, row = some r → ∃ o : Obj, W.heap[r]? = some o ∧ o.isCells = false) : OwnU W' base v t us :=
  ho.keptB hg (fun k e hk => by
    obtain ⟨o, h1, h2⟩ := hr k e
    obtain ⟨o', h3, h4⟩ := blk_cells ho hk
    rw [h1] at h3; cases h3
    rw [h2] at h4; cases h4)
theorem box_apart {W : World} {p base : Nat} {u v : Value} {t : List (List Int)} {us : List Value} (hb : Boxed W p 29 u) (ho : OwnU W base v t us) : ¬ blksU v us p := by
  rintro (h | ⟨i, hi, h⟩)
  · rcases ho.outer.2 with ⟨rfl, _⟩ | ⟨g, cap, cur, rfl, _, hh, _⟩
    · cases h
    · have e : g = p := by simpa [Value.ownBlock] using h
      subst e
      rw [show W.heap[g]? = _ from hb] at hh
      cases hh
  · have hr := (ho.rows i (by rw [← ho.len]; exact hi)).1
    rcases hr.2 with ⟨e0, _⟩ | ⟨g, cap, cur, e0, _, hh, _⟩
    · rw [e0] at h; cases h
    · rw [e0] at h
      have e : g = p := by simpa [Value.ownBlock] using h
      subst e
      rw [show W.heap[g]? = _ from hb] at hh
      cases hh

theorem wideDepth : Fence.wide.depth = none := rfl
theorem RoundIn.anyDepth {F : Fence} (hd : F.depth = none) {m m' : Nat} {P : Program} {l : Nat} {f : FuncId} {tmps : Array Value} {assign body : Code} {w : World} {R : Ending → World → Prop}
    (h : RoundIn F m P l f tmps assign body w R) : RoundIn F m' P l f tmps assign body w R := ⟨h.1, fun c cs _ => h.2 c cs (fun d h => by rw [hd] at h; cases h)⟩
theorem YieldAt.anyDepth {F : Fence} (hd : F.depth = none) {m : Nat} (m' : Nat) {P : Program} {l : Nat} {args : Array Value} {W : World} {R : Ending → World → Prop} (h : YieldAt F m P l args W R) : YieldAt F m' P l args W R := by
  obtain ⟨fn, tmps, assign, body, hy, hR⟩ := h
  exact ⟨fn, tmps, assign, body, hy, RoundIn.anyDepth hd hR⟩

/-- The iterator g hands the tables 'out' to its rounds, in order. Its own blocks, those from the heap's size at its call on and below e, it may write between two rounds; J e must abide that. A round keeps every block but bx. -/
def SeqRnd (P : Program) (g : Nat) (lb : Array Value) (bx : Nat) (S : List (List Int) → Prop) (out : List (List (List Int))) (w0 : World) : Prop :=
  ∀ (l : Nat) (J : Nat → List (List (List Int)) → World → Prop) (W : World), Below w0.heap.size w0 W →
    (∀ e pre A B, W.heap.size ≤ e → J e pre A → Keeps (fun k => ¬ (W.heap.size ≤ k ∧ k < e)) A B → J e pre B) →
    (∀ e pre v X W1, W.heap.size ≤ e → e ≤ W1.heap.size → J e pre W1 → S X → IntSS W1 (fun k => W.heap.size ≤ k ∧ k < e) v X → YieldAt Fence.wide 6 P l #[v] W1 fun e' W' =>
      e' = .returned (.bool true) ∧ J e (pre ++ [X]) W' ∧ Keeps (· ≠ bx) W1 W') →
    (∀ e, W.heap.size ≤ e → J e [] W) →
    CallsIn Fence.wide 6 P g (#[.func (.yield l) #[] #[]] ++ lb) W fun e' W' => (∃ v, e' = .returned v) ∧ ∃ e, W.heap.size ≤ e ∧ J e out W'

/-- how the body of a round is left -/
def postR {α : Type} (bx : Nat) (I : α → World → Prop) (xs : α) (W : World) : Exit → Act → World → Prop
  | .normal, _, W' => Keeps (· ≠ bx) W W' ∧ I xs W'
  | _, _, _ => False

variable {P : Program} {n : Nat}

theorem wpIn_rangeFunc_rnd {g : Operand} {ps : Array Tmp} {assign body : Code} {Q : Exit → Act → World → Prop} {a : Act} {w : World}
    {gf : Nat} {lb : Array Value} (hg : a.eval g = .func (.func gf) #[] lb) (eg : ∀ args w, (callFunc gf args).run P w = .ok (.enter gf args) w)
    {bx : Nat} {S : List (List Int) → Prop} {out : List (List (List Int))} (hbx : bx < w.heap.size) (hseq : SeqRnd P gf lb bx S out w) (hps : ps.size = 1)
    (I : Nat → List (List (List Int)) → World → Prop)
    (hI : ∀ e pre A B, w.heap.size + 2 ≤ e → I e pre A → Keeps (fun k => ¬ (w.heap.size ≤ k ∧ k < e)) A B → I e pre B)
    (h0 : ∀ e, w.heap.size + 2 ≤ e → I e [] w) (a₁ : Value → Act)
    (hassign : ∀ (l : Nat) (v : Value) (W : World) (K : Act → World → Prop), K (a₁ v) W →
      assign.wpIn (Fence.wide.inRound l) 6 P (Exit.then K (fun _ _ _ => False)) { tmps := (ps.zip #[v]).foldl (fun t (p, v) => t.setIfInBounds p v) a.tmps, defers := [] } W)
    (hbody : ∀ (l : Nat) (e : Nat) (pre : List (List (List Int))) (v : Value) (X : List (List Int)) (W : World), w.heap.size + 2 ≤ e → e ≤ W.heap.size → I e pre W → S X → IntSS W (fun k => w.heap.size + 2 ≤ k ∧ k < e) v X →
      body.wpIn (Fence.wide.inRound l) 6 P (postR bx (I e) (pre ++ [X]) W) (a₁ v) W)
    (hdone : ∀ (D e : Nat) (W : World), w.heap.size ≤ D → w.heap.size + 2 ≤ e → I e out W → W.heap[D]? = some (.deferred (some [])) → Q .normal { a with defers := { target := .collected D, args := #[] } :: a.defers } W) :
    (Code.rangeFunc g ps assign body).wpIn Fence.wide n P Q a w := by
  refine wpIn_rangeFunc ?_
  intro fn hfn
  obtain ⟨rec, hrec⟩ : ∃ rec : LoopState → Option Code → Loop, rec = fun st pe => { state := st, pending := pe, fn, tmps := a.tmps, params := ps, assign, body, defers := w.heap.size } := ⟨_, rfl⟩
  obtain ⟨W1, hW1⟩ : ∃ W1, (w.alloc (.deferred (some []))).alloc (.loop (rec .ready none)) = W1 := ⟨_, rfl⟩
  have hL1 : W1.heap[w.heap.size + 1]? = some (.loop (rec .ready none)) := by
    rw [← hW1]; have := World.alloc_heap_new (w.alloc (.deferred (some []))) (.loop (rec .ready none)); rwa [World.size_alloc] at this
  have hK1 : W1.heap[w.heap.size]? = some (.deferred (some [])) := by
    rw [← hW1]; exact (Below.heap_alloc _ _ _ (by simp)).trans (World.alloc_heap_new w _)
  have hs1 : W1.heap.size = w.heap.size + 2 := by rw [← hW1]; simp
  have hb1 : Below w.heap.size w W1 := by
    rw [← hW1]; exact ((Below.refl _ w).alloc (Nat.le_refl _) _).alloc (by simp) _
  have hI1 : ∀ e, w.heap.size + 2 ≤ e → I e [] W1 := fun e he => hI e [] w W1 he (h0 e he) (.of_below hb1)
  refine ⟨w.heap.size + 1, [{ target := .collected w.heap.size, args := #[] }], W1, { target := .fn (.func gf) lb, args := #[.func (.yield (w.heap.size + 1)) #[] #[]] }, W1, gf,
    #[.func (.yield (w.heap.size + 1)) #[] #[]] ++ lb, W1, ?_, ?_, ?_, ?_, (fun h => by cases h), ?_⟩
  · rw [← hW1, hrec]; exact run_enterLoop_outer _ _ _ _ _
  · simp only [resolve, hg]
    simp [go_sem]
  · intro f' hf'; exact trivial
  · simp [invoke, go_sem, eg]
  · refine (callsIn_wide (n := n - 1)).2 ((callsIn_wide (n := 6)).1 ((hseq (w.heap.size + 1)
      (fun e pre W => I e pre W ∧ W.heap[w.heap.size + 1]? = some (.loop (rec .ready none)) ∧ W.heap[w.heap.size]? = some (.deferred (some [])))
      W1 hb1 (fun e pre A B he hs hk => ?_) ?_ (fun e he => ⟨hI1 e (by omega), hL1, hK1⟩)).mono ?_))
    · rw [hs1] at he hk
      refine ⟨hI e pre A B he hs.1 (hk.mono (fun k _ hq h2 => hq (by omega))), ?_, ?_⟩
      · exact (hk.block _ (Array.getElem?_eq_some_iff.1 hs.2.1).1 (by omega)).trans hs.2.1
      · exact (hk.block _ (Array.getElem?_eq_some_iff.1 hs.2.2).1 (by omega)).trans hs.2.2
    · -- one round
      rintro e pre v X W he heW ⟨hi, hl, hk⟩ hSX hX
      rw [hs1] at he hX
      have hlt : w.heap.size + 1 < W.heap.size := (Array.getElem?_eq_some_iff.1 hl).1
      have hy := run_yield (P := P) (args := #[v]) hl (by rw [hrec]; exact hps.symm)
      rw [hrec] at hy
      refine ⟨fn, _, assign, body, hy, roundIn_of_wpIn hfn (hassign _ v W _ ⟨_, run_beginRound hl (by rw [hrec]), ?_⟩)⟩
      have hl2 : (W.putObj (w.heap.size + 1) (.loop { rec .ready none with state := .busy })).heap[w.heap.size + 1]? = some (.loop { rec .ready none with state := .busy }) := World.putObj_heap_same hlt
      have hk2 : (W.putObj (w.heap.size + 1) (.loop { rec .ready none with state := .busy })).heap[w.heap.size]? = some (.deferred (some [])) := (World.putObj_heap_other (by omega)).trans hk
      have hi2 : I e pre (W.putObj (w.heap.size + 1) (.loop { rec .ready none with state := .busy })) := hI e pre _ _ he hi (Keeps.putObj _ _ _ (by omega))
      have hX2 : IntSS (W.putObj (w.heap.size + 1) (.loop { rec .ready none with state := .busy })) (fun k => w.heap.size + 2 ≤ k ∧ k < e) v X := hX.kept (fun k hp _ => World.putObj_heap_other (by omega))
      refine wpIn_mono (hbody _ e pre v X _ he (by simpa using heW) hi2 hSX hX2) ?_
      rintro ex a3 W3 hp
      cases ex with
      | normal =>
        obtain ⟨hk3, hi3⟩ := hp
        have hs3 := hk3.size
        have hl3 := (hk3.block _ (Array.getElem?_eq_some_iff.1 hl2).1 (by omega)).trans hl2
        have hd3 := (hk3.block _ (Array.getElem?_eq_some_iff.1 hk2).1 (by omega)).trans hk2
        have hr := run_endRound (P := P) none hl3
        rw [hrec] at hl3
        rw [hrec] at hr
        have hl4 : (W3.putObj (w.heap.size + 1) (.loop (rec .ready none))).heap[w.heap.size + 1]? = some (.loop (rec .ready none)) := World.putObj_heap_same (Array.getElem?_eq_some_iff.1 hl3).1
        have hk4 : Keeps (· ≠ bx) W (W3.putObj (w.heap.size + 1) (.loop (rec .ready none))) := by
          have a1 : Keeps (fun k => k ≠ w.heap.size + 1 ∧ k ≠ bx) W (W3.putObj (w.heap.size + 1) (.loop (rec .ready none))) :=
            ((Keeps.putObj W (w.heap.size + 1) _ (by simp)).trans (hk3.mono (fun k _ h => h.2))).trans (Keeps.putObj _ _ _ (by simp))
          refine ⟨a1.os, a1.tape, a1.output, a1.size, fun k hk hne => ?_⟩
          by_cases e : k = w.heap.size + 1
          · subst e; rw [hl4, hl]
          · exact a1.block k hk ⟨e, hne⟩
        refine ⟨_, _, hr, rfl, ⟨?_, by rw [hrec]; rw [hrec] at hl4; exact hl4, by exact (World.putObj_heap_other (by omega)).trans hd3⟩, by rw [hrec] at hk4; exact hk4⟩
        exact hI e _ _ _ he hi3 (Keeps.putObj _ _ _ (by omega))
      | ret => exact hp.elim
      | exit id => exact hp.elim
      | goto t => exact hp.elim
      | panic ch => exact hp.elim
      | outgrown => exact hp.elim
    · -- behind the iterator
      rintro ex W2 ⟨⟨v, rfl⟩, e, he, hi, hl, hk⟩
      rw [hs1] at he
      refine ⟨none, _, by have := run_endLoop (P := P) hl (by rw [hrec]; simp); rw [hrec] at this; exact this, hdone _ e _ (Nat.le_refl _) he ?_ ((World.putObj_heap_other (by omega)).trans hk)⟩
      exact hI e _ _ _ he hi (Keeps.putObj _ _ _ (by omega))

end Go.Proofs.Ytdlpcoafbmhjjaa
