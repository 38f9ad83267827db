/- Best, RegR, RoundI, SpecR, FarB, LawsN0 in one text. (Put together by wip/tools/merge.py.) -/
import Derived.Test.YtigdgcpjkeaooaaFarP
import Derived.Test.YtigdgcpjkeaooaaRndX
import Derived.Test.YtigdgcpjkeaooaaRegF
import Derived.Test.YtigdgcpjkeaooaaInRnd
import Derived.Test.YtigdgcpjkeaooaaRegS
import Derived.Test.YtigdgcpjkeaooaaMany
import Derived.Test.YtigdgcpjkeaooaaFar
import Derived.Test.YtigdgcpjkeaooaaSpecM
import Derived.Test.YtigdgcpjkeaooaaFarS
import Derived.Deep.QuietTactic
import Derived.BigQuiet
import Derived.Test.YtigdgcpjkeaooaaDrawC
import Derived.Test.YtigdgcpjkeaooaaTotal
namespace Go.Proofs.Ytigdgcpjkeaooaa

def bestAt (f : Nat → Int) : Nat → Nat
  | 0 => 0
  | k + 1 => if f k < f (bestAt f k) then k else bestAt f k
theorem bestAt_lt (f : Nat → Int) : ∀ n, 0 < n → bestAt f n < n
  | 1, _ => by unfold bestAt; split <;> simp [bestAt]
  | n + 2, _ => by
    have := bestAt_lt f (n + 1) (by omega)
    rw [bestAt]
    split <;> omega
theorem bestAt_le (f : Nat → Int) : ∀ n k, k < n → f (bestAt f n) ≤ f k
  | n + 1, k, hk => by
    rw [bestAt]
    by_cases e : k = n
    · subst e
      split <;> omega
    · have := bestAt_le f n k (by omega)
      split <;> omega
theorem bestAt_congr {f g : Nat → Int} : ∀ n, (∀ k, k < n → f k = g k) → bestAt f n = bestAt g n
  | 0, _ => rfl
  | 1, h => by unfold bestAt; simp [bestAt]
  | n + 2, h => by
    have ih := bestAt_congr (f := f) (g := g) (n + 1) (fun k hk => h k (by omega))
    show (if f (n + 1) < f (bestAt f (n + 1)) then n + 1 else bestAt f (n + 1)) = (if g (n + 1) < g (bestAt g (n + 1)) then n + 1 else bestAt g (n + 1))
    rw [ih, h (n + 1) (by omega), h (bestAt g (n + 1)) (by have := bestAt_lt g (n + 1) (by omega); omega)]

/-- the distance of the k-th table of a list -/
def farK (t : List (List Int)) (L : List (List (List Int))) (k : Nat) : Int := farOf t (L[k]?.getD [])
/-- the first of the nearest tables -/
def bestOf (t : List (List Int)) (L : List (List (List Int))) : List (List Int) := L[bestAt (farK t L) L.length]?.getD []
theorem bestOf_mem {t : List (List Int)} {L : List (List (List Int))} (h : L ≠ []) : bestOf t L ∈ L := by
  have hl : 0 < L.length := List.length_pos_iff.2 h
  have := bestAt_lt (farK t L) L.length hl
  unfold bestOf
  rw [List.getElem?_eq_getElem this]
  exact List.getElem_mem this
theorem bestOf_le {t y : List (List Int)} {L : List (List (List Int))} (h : y ∈ L) : farOf t (bestOf t L) ≤ farOf t y := by
  obtain ⟨k, hk, rfl⟩ := List.getElem_of_mem h
  have := bestAt_le (farK t L) L.length k hk
  unfold farK at this
  rw [List.getElem?_eq_getElem hk] at this
  exact this
theorem bestOf_snoc (t : List (List Int)) (L : List (List (List Int))) (X : List (List Int)) : bestOf t (L ++ [X]) = if L = [] then X else if farOf t X < farOf t (bestOf t L) then X else bestOf t L := by
  by_cases h : L = []
  · subst h
    rw [if_pos rfl]
    unfold bestOf
    simp [bestAt]
  · rw [if_neg h]
    have hl : 0 < L.length := List.length_pos_iff.2 h
    have hc : bestAt (farK t (L ++ [X])) L.length = bestAt (farK t L) L.length := bestAt_congr _ (fun k hk => by unfold farK; rw [List.getElem?_append_left hk])
    have hb := bestAt_lt (farK t L) L.length hl
    have e1 : farK t (L ++ [X]) L.length = farOf t X := by unfold farK; simp
    have e2 : farK t (L ++ [X]) (bestAt (farK t L) L.length) = farOf t (bestOf t L) := by
      show farOf t ((L ++ [X])[bestAt (farK t L) L.length]?.getD []) = farOf t (L[bestAt (farK t L) L.length]?.getD [])
      rw [List.getElem?_append_left hb]
    unfold bestOf
    rw [List.length_append, List.length_singleton, bestAt, hc, e1, e2]
    unfold bestOf
    split
    · simp
    · rw [List.getElem?_append_left hb]

/-- the nearest rounding -/
def nearR (t : List (List Int)) (b : Int) : List (List Int) := bestOf t (roundL t b)
theorem round_ne {t : List (List Int)} {b : Int} (ht : tblOk t) (hb : 2 ≤ b) (hb2 : b ≤ 20) : roundL t b ≠ [] := by
  have := cnt_pos ht hb hb2
  intro e
  unfold cntR at this
  rw [e] at this
  simp at this
theorem near_fits {t : List (List Int)} {b : Int} (ht : tblOk t) (hb : 2 ≤ b) (hb2 : b ≤ 20) : Fits t (nearR t b) b := (round_mem ht hb hb2).1 (bestOf_mem (round_ne ht hb hb2))
theorem near_le {t y : List (List Int)} {b : Int} (hb : 2 ≤ b) (hb2 : b ≤ 20) (h : Fits t y b) : farOf t (nearR t b) ≤ farOf t y := bestOf_le ((round_mem h.1 hb hb2).2 h)

end Go.Proofs.Ytigdgcpjkeaooaa

namespace Go.Proofs.Ytigdgcpjkeaooaa
open Go.RowKit

theorem region_facts_round {P : Program} {n0 id rl : Nat} {Q : Exit → Act → World → Prop} {a0 : Act} {w : World} {ops : Array Oper} (hm : P.follows .mixedOrders = true) (he : earlyB ops = true) (hd : distB ops a0.tmps.size = true) (hnd : noDefer ops = true) (hQ : ¬ LetsOut Q)
    (R : World → World → Prop) (F : Nat → Value → World → Prop) (hr : R w.drew w.drew) (ht : ∀ {x y z}, R x y → R y z → R x z) (hs : ∀ i v x y, F i v x → R x y → F i v y)
    (hstep : ∀ (a : Act) (W : World), R w.drew W → (∀ s, freeS ops s = true → a.eval (.tmp s) = a0.tmps.getD s undef) → ∀ (i : Nat) (o : Oper), ops[i]? = some o → (∀ k, waits o k = true → ∀ o', ops[k]? = some o' → F k (dval a o') W) →
      (Region.wanted o (yielded ops a.tmps) = true ∧ o.wp P a W (fun a' W' => ∃ v, a' = a.put o.dst v ∧ R W W' ∧ F i (if o.dst.isSome then v else undef) W') Q) ∨ (Region.wanted o (yielded ops a.tmps) = false ∧ R W W ∧ F i undef W))
    (hdone : ∀ (a : Act) (W : World), a.tmps.size = a0.tmps.size → a.defers = a0.defers → R w.drew W → (∀ s, freeS ops s = true → a.tmps.getD s undef = a0.tmps.getD s undef) → (∀ i o, ops[i]? = some o → F i (dval a o) W) → Q .normal a W) :
    (Code.region id ops true).wpIn (Fence.wide.inRound rl) n0 P Q a0 w := by
  refine wpIn_region_any hm (wpAny_round rl hQ hnd _ _ _ _ (wpAny_inv2 (RegSt ops a0 R w.drew F) (fun listed a W hs' st hr' => ?_) (fun bt a W i o st ho hb ha => ?_) _ _ _ _ (by simp) ?_ ?_))
  · have hl := all_listed (early_of he) listed hs' hr'
    exact hdone a W st.size st.defers st.rel st.old (fun i o ho => st.fact i o (hl i (Array.getElem?_eq_some_iff.1 ho).1) ho)
  · have hdep : ∀ k, waits o k = true → ∀ o', ops[k]? = some o' → F k (dval a o') W := fun k hk o' ho' => by
      obtain ⟨e, h1, h2, rfl⟩ := waits_of hk
      exact st.fact e.on o' (ha e h1 h2) ho'
    rcases hstep a W st.rel st.old i o ho hdep with ⟨hw, hk⟩ | ⟨hw, hk1, hk2⟩
    · refine .inl ⟨hw, Oper.wp_mono (fun a' W' h => ?_) hk⟩
      obtain ⟨v, rfl, h1, h2⟩ := h
      exact st.put hd ht hs ho h1 h2
    · exact .inr ⟨hw, st.put hd ht hs ho hk1 (by cases o.dst <;> exact hk2)⟩
  · unfold cntF; rw [Array.toList_replicate]
    exact Nat.le_trans (List.length_filter_le _ _) (by simp)
  · refine ⟨rfl, rfl, hr, fun _ _ => rfl, fun i o hb _ => ?_⟩
    exfalso
    rw [Array.getD_eq_getD_getElem?, Array.getElem?_replicate] at hb
    split at hb <;> cases hb

end Go.Proofs.Ytigdgcpjkeaooaa

namespace Go.Proofs.Ytigdgcpjkeaooaa
open Go.RowKit Go.Shelf

attribute [local go_sem] Oper.semAt_some

theorem callsIn_rnd {P : Program} {f : FuncId} {args : Array Value} {n : Nat} {w : World} {R : Ending → World → Prop} (l : Nat) (h : Calls P f args w R) : CallsIn (Fence.wide.inRound l) n P f args w R := CallsIn.inRound l (callsIn_wide.2 h)

theorem lensR_same {t X : List (List Int)} (ht : tblOk t) (h : same t X) : X.length ≤ 1000 ∧ ∀ j, j < X.length → 1 ≤ (X[j]?.getD []).length ∧ (X[j]?.getD []).length ≤ 1000 := by
  have h1 := lensR ht
  refine ⟨by rw [← h.1]; exact h1.1, fun j hj => ?_⟩
  have h2 := h1.2 j (by rw [h.1]; exact hj)
  have h3 : wid t j = wid X j := h.2 j (by rw [h.1]; exact hj)
  unfold wid at h3
  rw [← h3]; exact h2

/-- the best rounding so far -/
def BestI (w : World) (T : Value) (t : List (List Int)) (e : Nat) (pre : List (List (List Int))) (W : World) : Prop :=
  Boxed W w.heap.size 23 T ∧ Below w.heap.size w W ∧ ((pre = [] ∧ Boxed W (w.heap.size + 1) 23 (.slice none 0 0)) ∨
    (pre ≠ [] ∧ same t (bestOf t pre) ∧ ∃ g cap us, Boxed W (w.heap.size + 1) 23 (.slice (some ⟨g, 0, none⟩) t.length cap) ∧ OwnU W e (.slice (some ⟨g, 0, none⟩) t.length cap) (bestOf t pre) us))
theorem BestI.keeps {w : World} {T : Value} {t : List (List Int)} {e : Nat} {pre : List (List (List Int))} {A B : World} {s : Nat} (h : BestI w T t e pre A) (hs : w.heap.size + 1 < s) (hk : Keeps (fun k => ¬ (s ≤ k ∧ k < e)) A B) : BestI w T t e pre B := by
  obtain ⟨h1, h2, h3⟩ := h
  refine ⟨boxKeeps h1 hk (by omega), h2.trans (hk.below h2.size (fun k _ => by omega)), ?_⟩
  rcases h3 with ⟨h3, h4⟩ | ⟨h3, hs2, g, cap, us, h4, h5⟩
  · exact .inl ⟨h3, boxKeeps h4 hk (by omega)⟩
  · exact .inr ⟨h3, hs2, g, cap, us, boxKeeps h4 hk (by omega), h5.keeps hk (fun k hk => by have := (h5.blk hk).1; omega)⟩

/-- the values of the operations that compare -/
def bestF (T vb vx : Value) (fx fb : Int) (d : Bool) : Nat → Value → World → Prop
  | 0, v, _ => v = vb
  | 1, v, _ => v = .bool false
  | 2, v, _ => v = .bool false
  | 3, v, _ => v = T
  | 4, v, _ => v = vx
  | 5, v, _ => v = .int .i64 fx
  | 6, v, _ => v = T
  | 7, v, _ => v = vb
  | 8, v, _ => v = .int .i64 fb
  | 9, v, _ => v = .bool d
  | 10, v, _ => v = .bool d
  | _, _, _ => True
theorem bestF_any {T vb vx : Value} {fx fb : Int} {d : Bool} {i : Nat} {v : Value} {x y : World} (h : bestF T vb vx fx fb d i v x) : bestF T vb vx fx fb d i v y := by
  rcases i with _ | _ | _ | _ | _ | _ | _ | _ | _ | _ | _ | i <;> exact h

/-- what ControlRound of the program leaves -/
def RoundP (w : World) (t : List (List Int)) (b : Int) (e : Ending) (w' : World) : Prop :=
  Below w.heap.size w w' ∧ ((¬ small t b ∧ e = .returned (.tuple #[.slice none 0 0, .bool false])) ∨
    (small t b ∧ ∃ g cap us, e = .returned (.tuple #[.slice (some ⟨g, 0, none⟩) t.length cap, .bool true]) ∧ OwnU w' w.heap.size (.slice (some ⟨g, 0, none⟩) t.length cap) (nearR t b) us))

set_option maxRecDepth 100000 in
set_option maxHeartbeats 2000000 in
theorem iControlRound (w : World) (P : Nat → Prop) (v : Value) (t : List (List Int)) (b : Int) (h : IntSS w P v t) (hl : lensT t) :
    Calls Try.prog 9 #[v, .int .i64 b] w (RoundP w t b) := by
  have HT := Lib.hid (h.mono (Q := (· < w.heap.size)) (fun _ _ h => h))
  have HL := Lib.hid hl
  obtain ⟨a, cap, rfl, _, _⟩ := h
  clear hl
  have nil1 : ∀ w : World, (binOp .eql 23 (.slice none 0 0) (.slice none 0 0)).run Try.prog w = .ok (.bool true) w := fun _ => rfl
  refine (callsIn_wide (n := 6)).1 ?_
  refine callsIn_of_wp_marks Try.func9 rfl trivial ?_ rfl
  simp only [Try.ntmps9, List.size_toArray, List.length_cons, List.length_nil, Nat.reduceAdd, Nat.reduceSub, Array.replicate_succ, Array.replicate_zero, List.push_toArray, List.append_toArray, List.nil_append, List.cons_append]
  refine wpIn_noFail (wpIn_wide.2 ?_)
  go_wp2_with fail
  with_reducible refine (iRoundable _ _ _ t b (HT.out.alloc _) HL.out).mono ?_
  rintro e w' ⟨rfl, rfl⟩
  by_cases hs : small t b
  · have D : Hid (decide (small t b) = true) := by unfold Hid; simpa using hs
    have HS := Lib.hid hs
    rw [D.out]
    clear hs
    go_wp2_with fail
    with_reducible refine (iRoundings _ _ b _ _ _ rfl).mono ?_
    rintro e w2 ⟨rfl, hw2⟩
    have kx := (((Boxed.new w 23 (.slice a t.length cap)).alloc (.cells #[.slice none 0 0] 23)).alloc (.cells #[.slice a t.length cap] 23)).alloc (.cells #[.int .i64 b] 3)
    have kn := ((Boxed.new (w.alloc (.cells #[.slice a t.length cap] 23)) 23 (.slice none 0 0)).alloc (.cells #[.slice a t.length cap] 23)).alloc (.cells #[.int .i64 b] 3)
    have kt := (Boxed.new ((w.alloc (.cells #[.slice a t.length cap] 23)).alloc (.cells #[.slice none 0 0] 23)) 23 (.slice a t.length cap)).alloc (.cells #[.int .i64 b] 3)
    have kb := Boxed.new (((w.alloc (.cells #[.slice a t.length cap] 23)).alloc (.cells #[.slice none 0 0] 23)).alloc (.cells #[.slice a t.length cap] 23)) 3 (.int .i64 b)
    have hB : Below w.heap.size w ((((w.alloc (.cells #[.slice a t.length cap] 23)).alloc (.cells #[.slice none 0 0] 23)).alloc (.cells #[.slice a t.length cap] 23)).alloc (.cells #[.int .i64 b] 3)) := ((((Below.refl _ _).alloc (Nat.le_refl _) _).alloc (by simp) _).alloc (by simp; omega) _).alloc (by simp; omega) _
    have hz : ((((w.alloc (.cells #[.slice a t.length cap] 23)).alloc (.cells #[.slice none 0 0] 23)).alloc (.cells #[.slice a t.length cap] 23)).alloc (.cells #[.int .i64 b] 3)).heap.size = w.heap.size + 4 := by simp
    rw [← hw2] at kx kn kt kb hB hz
    rw [World.size_alloc, World.size_alloc, World.size_alloc] at kb
    rw [World.size_alloc, World.size_alloc] at kt
    rw [World.size_alloc] at kn
    simp only [World.size_alloc]
    clear hw2
    go_wp2_with fail
    refine (wpIn_wide (n := 6)).1 ?_
    have HT2 := Lib.hid (HT.out.below hB)
    have HBE := Lib.hid hB
    refine wpIn_rangeFunc_rnd (gf := 44) (lb := #[.pointer (some ⟨w.heap.size + 1 + 1, 0, none⟩), .pointer (some ⟨w.heap.size + 1 + 1 + 1, 0, none⟩)]) rfl (enters_of Try.func44 (by kernel_rfl) rfl) (bx := w.heap.size + 1) (by omega)
      (iRound1 (· < w.heap.size) (w.heap.size + 1) (w.heap.size + 1 + 1) (w.heap.size + 1 + 1 + 1) _ t b HS.out.1 HS.out.2.2.1 HS.out.2.2.2 w2 kt kb HT2.out (by omega) (by omega) (by omega) (fun k hk => by omega)) rfl
      (fun e pre W => BestI w (.slice a t.length cap) t e pre W)
      (fun e pre A B he hA hk => hA.keeps (by omega) hk)
      (fun e _ => ⟨kx, hB, .inl ⟨rfl, kn⟩⟩)
      (fun v => { tmps := #[.slice a t.length cap, .int .i64 b, .pointer (some ⟨w.heap.size, 0, none⟩), undef, .slice none 0 0, .bool false, .pointer (some ⟨w.heap.size + 1, 0, none⟩), v, .slice a t.length cap, .int .i64 b, .bool true, .bool false, .slice a t.length cap, .int .i64 b, .func (.func 44) #[] #[.pointer (some ⟨w.heap.size + 1 + 1, 0, none⟩), .pointer (some ⟨w.heap.size + 1 + 1 + 1, 0, none⟩)], v, undef, undef, undef, undef, undef, undef, undef, undef, undef, undef, undef, undef, undef, undef, undef, undef], defers := [] }) ?assign ?body ?done
    case assign =>
      intro l v W K hK
      gi_wp2
      simpa using hK
    case body =>
      rintro l e pre v X W he heW ⟨hx, hbel, hbest⟩ hF hX
      have hsX : same t X := hF.2.2.1
      have LX := Lib.hid (lens_same HS.out.1 hsX)
      have HSX := Lib.hid hsX
      have HXX := Lib.hid hX
      have hsz := hbel.size
      rw [hz] at he hX
      obtain ⟨ax, capx, rfl, _, _⟩ := hX
      clear hF hsX
      have HBL := Lib.hid hbel
      have HXB := Lib.hid hx
      have c0 := hx.cell
      rcases hbest with ⟨rfl, hn⟩ | ⟨hp, hsB, g, cp, us, hg, ho⟩
      · have c1 := hn.cell
        have HN := Lib.hid hn
        clear hx hbel hn
        refine wpIn_noFail ?_
        gi_wp2
        refine quiet_round (F := Fence.wide) rfl (by kernel_rfl) (by kernel_rfl) (by kernel_rfl) ?_
        repeat (gi_big_quiet_step (fail))
        refine wpQuietIn_nil ?_
        intro _ hw'
        obtain ⟨nq, hw''⟩ := hw'
        subst hw''
        gi_wp2
        have LR := lensR_same HS.out.1 HSX.out
        refine (callsIn_rnd l (iCopyTable (W.drewN nq) _ _ X (HXX.out.drewN nq) LR.1 LR.2)).mono ?_
        rintro e3 W3 ⟨vx, us3, rfl, ho3, hb3⟩
        obtain ⟨g3, cp3, rfl, _, _, _, _⟩ := id ho3.form
        have HO3 := Lib.hid ho3
        have HB3 := Lib.hid hb3
        have kn3 := boxBelow (boxDraws HN.out nq) hb3 (boxDraws HN.out nq).lt
        have f1 := kn3.cell
        have f2 := kn3.frozen
        clear ho3 hb3
        gi_wp2
        have hap := box_apart kn3 HO3.out
        have hbo : bestOf t ([] ++ [X]) = X := by rw [bestOf_snoc, if_pos rfl]
        have kk : Keeps (· ≠ w.heap.size + 1) W (W3.setCell ⟨w.heap.size + 1, 0, none⟩ (.slice (some ⟨g3, 0, none⟩) X.length cp3)) := (((Keeps.refl _ W).drewN nq).trans (Keeps.of_below HB3.out)).trans (Keeps.setCell _ _ _ _ (by simp))
        refine ⟨kk, ?_, ?_, .inr ⟨by simp, by rw [hbo]; exact HSX.out, g3, cp3, us3, ?_, ?_⟩⟩
        · exact boxKeeps HXB.out (kk) (by omega)
        · exact HBL.out.trans (kk.below HBL.out.size (fun k _ => by omega))
        · rw [HSX.out.1]; exact kn3.set _
        · rw [hbo, HSX.out.1]; exact (HO3.out.mono (by simpa using heW)).keeps (Q := (· ≠ w.heap.size + 1)) (Keeps.setCell _ _ _ _ (by simp)) (fun k hk e => hap (by rw [← e]; exact hk))
      · have he1 : ∀ w : World, (binOp .eql 23 (.slice (some ⟨g, 0, none⟩) t.length cp) (.slice none 0 0)).run Try.prog w = .ok (.bool false) w := fun _ => rfl
        have HG := Lib.hid hg
        have HO := Lib.hid ho
        have HSB := Lib.hid hsB
        have HPN := Lib.hid hp
        have LB := Lib.hid (lens_same HS.out.1 hsB)
        have HBS := Lib.hid (bestOf_snoc t pre X)
        rw [if_neg hp] at HBS
        clear hx hbel hg ho hsB hp
        obtain ⟨Y, hY⟩ : ∃ Y, bestOf t pre = Y := ⟨_, rfl⟩
        rw [hY] at HO HSB LB HBS
        clear hY
        obtain ⟨fx, hfx⟩ : ∃ f, farOf t X = f := ⟨_, rfl⟩
        obtain ⟨fb, hfb⟩ : ∃ f, farOf t Y = f := ⟨_, rfl⟩
        obtain ⟨d, hd⟩ : ∃ d, decide (fx < fb) = d := ⟨_, rfl⟩
        have HFX := Lib.hid hfx
        have HFB := Lib.hid hfb
        have HLY : Hid (t.length = Y.length) := HSB.out.1
        refine wpIn_noFail ?_
        gi_wp2
        refine region_facts_round (by kernel_rfl) (by kernel_rfl) (by kernel_rfl) (by kernel_rfl) (by rintro ⟨_, _, h⟩; exact h.elim) (Below W.heap.size)
          (bestF (.slice a t.length cap) (.slice (some ⟨g, 0, none⟩) t.length cp) (.slice ax X.length capx) fx fb d) (Below.refl _ _) Below.trans (fun i v x y h _ => bestF_any h) ?step ?fin
        case step =>
          intro a1 W' hR hf i o ho hdep
          have e2 : a1.eval (.tmp 2) = .pointer (some ⟨w.heap.size, 0, none⟩) := hf 2 (by kernel_rfl)
          have e6 : a1.eval (.tmp 6) = .pointer (some ⟨w.heap.size + 1, 0, none⟩) := hf 6 (by kernel_rfl)
          have e7 : a1.eval (.tmp 7) = .slice ax X.length capx := hf 7 (by kernel_rfl)
          have hR' : Below W.heap.size W W' := (Below.refl _ W).drew.trans hR
          have kT' := boxBelow HXB.out hR' HXB.out.lt
          have cT := kT'.cell
          have kG' := boxBelow HG.out hR' HG.out.lt
          have cG := kG'.cell
          rcases i with _ | i
          · cases ho
            exact .inl ⟨rfl, op_val (v := .slice (some ⟨g, 0, none⟩) t.length cp) (w' := W') (by simp [go_sem, evT e6, cG]) ⟨_, rfl, Below.refl _ _, rfl⟩⟩
          rcases i with _ | i
          · cases ho
            have h0 : a1.eval (.tmp 16) = .slice (some ⟨g, 0, none⟩) t.length cp := hdep 0 (by kernel_rfl) _ rfl
            exact .inl ⟨rfl, op_val (v := .bool false) (w' := W') (by simp [go_sem, evT h0, he1]) ⟨_, rfl, Below.refl _ _, rfl⟩⟩
          rcases i with _ | i
          · cases ho
            have h0 : a1.eval (.tmp 17) = .bool false := hdep 1 (by kernel_rfl) _ rfl
            exact .inl ⟨rfl, _, rfl, Below.refl _ _, h0⟩
          rcases i with _ | i
          · cases ho
            have hg : a1.eval (.tmp 18) = .bool false := hdep 2 (by kernel_rfl) _ rfl
            exact .inl ⟨(wanted_at rfl rfl rfl hg).trans rfl, op_val (v := .slice a t.length cap) (w' := W') (by simp [go_sem, evT e2, cT]) ⟨_, rfl, Below.refl _ _, rfl⟩⟩
          rcases i with _ | i
          · cases ho
            have hg : a1.eval (.tmp 18) = .bool false := hdep 2 (by kernel_rfl) _ rfl
            exact .inl ⟨(wanted_at rfl rfl rfl hg).trans rfl, _, rfl, Below.refl _ _, e7⟩
          rcases i with _ | i
          · cases ho
            have hg : a1.eval (.tmp 18) = .bool false := hdep 2 (by kernel_rfl) _ rfl
            have h3 : a1.eval (.tmp 19) = .slice a t.length cap := hdep 3 (by kernel_rfl) _ rfl
            have h4 : a1.eval (.tmp 20) = .slice ax X.length capx := hdep 4 (by kernel_rfl) _ rfl
            refine .inl ⟨(wanted_at rfl rfl rfl hg).trans rfl, op_enter (w' := W') (f := 10) (args := #[.slice a t.length cap, .slice ax X.length capx]) (by simp [go_sem, evT h3, evT h4]) ?_⟩
            refine (iControlFar W' _ _ _ _ t X (HT.out.below (HBL.out.trans (hR'.mono HBL.out.size))) ((HXX.out.mono (Q := (· < W.heap.size)) (fun k _ h => h)).below hR') HL.out LX.out).mono ?_
            rintro e w' ⟨rfl, hb⟩
            exact ⟨_, rfl, _, rfl, hb.mono hR.size, by rw [HFX.out]; rfl⟩
          rcases i with _ | i
          · cases ho
            have hg : a1.eval (.tmp 18) = .bool false := hdep 2 (by kernel_rfl) _ rfl
            exact .inl ⟨(wanted_at rfl rfl rfl hg).trans rfl, op_val (v := .slice a t.length cap) (w' := W') (by simp [go_sem, evT e2, cT]) ⟨_, rfl, Below.refl _ _, rfl⟩⟩
          rcases i with _ | i
          · cases ho
            have hg : a1.eval (.tmp 18) = .bool false := hdep 2 (by kernel_rfl) _ rfl
            exact .inl ⟨(wanted_at rfl rfl rfl hg).trans rfl, op_val (v := .slice (some ⟨g, 0, none⟩) t.length cp) (w' := W') (by simp [go_sem, evT e6, cG]) ⟨_, rfl, Below.refl _ _, rfl⟩⟩
          rcases i with _ | i
          · cases ho
            have hg : a1.eval (.tmp 18) = .bool false := hdep 2 (by kernel_rfl) _ rfl
            have h3 : a1.eval (.tmp 22) = .slice a t.length cap := hdep 6 (by kernel_rfl) _ rfl
            have h4 : a1.eval (.tmp 23) = .slice (some ⟨g, 0, none⟩) t.length cp := hdep 7 (by kernel_rfl) _ rfl
            refine .inl ⟨(wanted_at rfl rfl rfl hg).trans rfl, op_enter (w' := W') (f := 10) (args := #[.slice a t.length cap, .slice (some ⟨g, 0, none⟩) t.length cp]) (by simp [go_sem, evT h3, evT h4]) ?_⟩
            refine (iControlFar W' _ _ _ _ t Y (HT.out.below (HBL.out.trans (hR'.mono HBL.out.size))) (HO.out.below hR').ints HL.out LB.out).mono ?_
            rintro e w' ⟨rfl, hb⟩
            exact ⟨_, rfl, _, rfl, hb.mono hR.size, by rw [HFB.out]; rfl⟩
          rcases i with _ | i
          · cases ho
            have hg : a1.eval (.tmp 18) = .bool false := hdep 2 (by kernel_rfl) _ rfl
            have h3 : a1.eval (.tmp 21) = .int .i64 fx := hdep 5 (by kernel_rfl) _ rfl
            have h4 : a1.eval (.tmp 24) = .int .i64 fb := hdep 8 (by kernel_rfl) _ rfl
            exact .inl ⟨(wanted_at rfl rfl rfl hg).trans rfl, op_val (v := .bool d) (w' := W') (by simp [go_sem, evT h3, evT h4, hd]) ⟨_, rfl, Below.refl _ _, rfl⟩⟩
          rcases i with _ | i
          · cases ho
            have hg : a1.eval (.tmp 18) = .bool false := hdep 2 (by kernel_rfl) _ rfl
            have h3 : a1.eval (.tmp 25) = .bool d := hdep 9 (by kernel_rfl) _ rfl
            exact .inl ⟨rfl, op_val (v := .bool d) (w' := W') (by simp [go_sem, evT hg, evT h3]) ⟨_, rfl, Below.refl _ _, rfl⟩⟩
          · cases ho
        case fin =>
          intro a1 W' hsz' hdf hR hold hfact
          have h26 : a1.tmps.getD 26 undef = .bool d := hfact 10 _ rfl
          obtain ⟨f, rfl⟩ := frame_lit [16, 17, 18, 19, 20, 21, 22, 23, 24, 25, 26] (by kernel_rfl) hsz' hdf hold
          simp only [List.foldl_cons, List.foldl_nil, List.setIfInBounds_toArray, List.set_cons_succ, List.set_cons_zero] at h26 ⊢
          have h26' : f 26 = .bool d := h26
          rw [h26']
          have hR' : Below W.heap.size W W' := (Below.refl _ W).drew.trans hR
          clear hfact hold h26 h26' hdf hsz'
          cases d with
          | true =>
            have hlt : fx < fb := of_decide_eq_true hd
            gi_wp2
            have LR := lensR_same HS.out.1 HSX.out
            refine (callsIn_rnd l (iCopyTable W' _ _ X ((HXX.out.mono (Q := (· < W.heap.size)) (fun k hk _ => Nat.lt_of_lt_of_le hk.2 heW)).below hR') LR.1 LR.2)).mono ?_
            rintro e3 W3 ⟨vx, us3, rfl, ho3, hb3⟩
            obtain ⟨g3, cp3, rfl, _, _, _, _⟩ := id ho3.form
            have HO3 := Lib.hid ho3
            have HB3 := Lib.hid hb3
            have kG := boxBelow HG.out hR' HG.out.lt
            have kn3 := boxBelow kG hb3 kG.lt
            have f1 := kn3.cell
            have f2 := kn3.frozen
            clear ho3 hb3
            gi_wp2
            have hap := box_apart kn3 HO3.out
            have hbo : bestOf t (pre ++ [X]) = X := by rw [HBS.out, HFX.out, HFB.out, if_pos hlt]
            have kk : Keeps (· ≠ w.heap.size + 1) W (W3.setCell ⟨w.heap.size + 1, 0, none⟩ (.slice (some ⟨g3, 0, none⟩) X.length cp3)) := ((Keeps.of_below hR').trans (Keeps.of_below HB3.out)).trans (Keeps.setCell _ _ _ _ (by simp))
            refine ⟨kk, ?_, ?_, .inr ⟨by simp, by rw [hbo]; exact HSX.out, g3, cp3, us3, ?_, ?_⟩⟩
            · exact boxKeeps HXB.out (kk) (by omega)
            · exact HBL.out.trans (kk.below HBL.out.size (fun k _ => by omega))
            · rw [HSX.out.1]; exact kn3.set _
            · rw [hbo, HSX.out.1]; exact (HO3.out.mono (Nat.le_trans heW hR'.size)).keeps (Q := (· ≠ w.heap.size + 1)) (Keeps.setCell _ _ _ _ (by simp)) (fun k hk e => hap (by rw [← e]; exact hk))
          | false =>
            have hlt : ¬ fx < fb := of_decide_eq_false hd
            gi_wp2
            have hbo : bestOf t (pre ++ [X]) = Y := by rw [HBS.out, HFX.out, HFB.out, if_neg (by omega)]
            have kk : Keeps (· ≠ w.heap.size + 1) W W' := Keeps.of_below hR'
            refine ⟨kk, boxKeeps HXB.out (kk) (by omega), HBL.out.trans (kk.below HBL.out.size (fun k _ => by omega)), .inr ⟨by simp, by rw [hbo]; exact HSB.out, g, cp, us, boxBelow HG.out hR' HG.out.lt, ?_⟩⟩
            rw [hbo]; exact HO.out.below hR'
    case done =>
      rintro D e W hD he ⟨hx, hbel, hbest⟩ hK
      rcases hbest with ⟨hp, hn⟩ | ⟨hp, hsB, g, cp, us, hg, ho⟩
      · exact absurd hp (round_ne HS.out.1 HS.out.2.2.1 HS.out.2.2.2)
      have c1 := hg.cell
      have hl : Hid (t.length = (bestOf t (roundL t b)).length) := hsB.1
      have he1 : ∀ w : World, (binOp .neq 23 (.slice (some ⟨g, 0, none⟩) t.length cp) (.slice none 0 0)).run Try.prog w = .ok (.bool true) w := fun _ => rfl
      go_wp2_with fail
      go_quiet (fail)
      go_wp2_with fail
      have hK' : (W.drewN nq).heap[D]? = some (.deferred (some [])) := hK
      refine ⟨by simp, .inl ⟨_, _, rfl, run_takeDeferred hK', ?_⟩⟩
      refine ⟨_, results_tmp2 rfl _ _ _, (below_drewN hbel nq).trans (belowK_b (w := w) (Nat.le_refl _) (W.drewN nq) D _ _ (by omega) hK' rfl rfl), .inr ⟨HS.out, g, cp, us, rfl, ?_⟩⟩
      exact ownU_own ((ho.mono (by omega)).drewN nq) (grownBy_putObj' _ _ _) (fun r hr => by cases hr; exact ⟨_, hK', rfl⟩)
  · have D : Hid (decide (small t b) = false) := by unfold Hid; simpa using hs
    have HN := Lib.hid hs
    rw [D.out]
    clear hs
    go_wp2_with fail
    exact ⟨_, results_tmp2 rfl _ _ _, (Below.refl _ _).alloc (Nat.le_refl _) _, .inl ⟨HN.out, rfl⟩⟩

end Go.Proofs.Ytigdgcpjkeaooaa

namespace Go.Proofs.Ytigdgcpjkeaooaa
open Go.RowKit

/-- what the nearest rounding leaves -/
def NearP (w : World) (t : List (List Int)) (b : Int) (e : Ending) (w' : World) : Prop :=
  Below w.heap.size w w' ∧ ((¬ small t b ∧ ∃ g, e = .returned (.tuple #[.slice (some ⟨g, 0, none⟩) 0 0, .bool false]) ∧ OwnU w' w.heap.size (.slice (some ⟨g, 0, none⟩) 0 0) [] []) ∨
    (small t b ∧ ∃ g cap us, e = .returned (.tuple #[.slice (some ⟨g, 0, none⟩) t.length cap, .bool true]) ∧ OwnU w' w.heap.size (.slice (some ⟨g, 0, none⟩) t.length cap) (nearR t b) us))

set_option maxRecDepth 100000 in
set_option maxHeartbeats 1000000 in
theorem sControlRound (w : World) (P : Nat → Prop) (v : Value) (t : List (List Int)) (b : Int) (h : IntSS w P v t) (hl : lensT t) :
    Calls Try.prog 16 #[v, .int .i64 b] w (NearP w t b) := by
  have HT := Lib.hid (h.mono (Q := (· < w.heap.size)) (fun _ _ h => h))
  have HL := Lib.hid hl
  obtain ⟨a, cap, rfl, _, _⟩ := h
  clear hl
  go_enter Try.func16, Try.ntmps16
  go_wp2_with fail
  with_reducible refine (sOk _ _ _ t b HT.out HL.out).mono ?_
  rintro e w' ⟨rfl, n, rfl⟩
  by_cases hs : small t b
  · have D : Hid (decide (small t b) = true) := by unfold Hid; simpa using hs
    have HTK := Lib.hid hs.1
    have hb1 := hs.2.2.1
    have hb2 := hs.2.2.2
    have HSM := Lib.hid hs
    have hcn : (roundL t b).length ≤ 512 := cnt_512 hs.2.1
    have hcp : 1 ≤ (roundL t b).length := cnt_pos hs.1 hb1 hb2
    rw [D.out]
    clear hs
    go_wp2_with fail
    with_reducible refine (sCopy _ _ _ t (HT.out.drewN n) (lensR HTK.out).1 (lensR HTK.out).2).mono ?_
    rintro e w1 ⟨vx, us, rfl, ho, b1⟩
    have HO := Lib.hid ho
    obtain ⟨g, cp, rfl, hg, _, _, _⟩ := ho.form
    have b1' : Below w.heap.size w w1 := ⟨b1.os, b1.tape, b1.output, b1.size, b1.block⟩
    have HB := Lib.hid b1'
    have HNX : Hid (∀ k, k < w.heap.size → ¬ blksU (.slice (some ⟨g, 0, none⟩) t.length cp) us k) := fun k hk hb => by
      have := (ho.blk hb).1
      change w.heap.size ≤ k at this
      omega
    clear ho hg b1
    go_wp2_with fail
    with_reducible refine (sAll t b (· < w.heap.size) _ _ us _ HTK.out hb1 hb2 HNX.out (t.length * wid t 0) 0 rfl 0 rfl t w1 (HT.out.below b1') HO.out (same_refl t) (okTo_zero t b)).mono ?_
    rintro e w2 ⟨v2, us2, vs2, X2, rfl, hL, _, _, _, hk⟩
    have BF := Lib.hid (below_of_keeps HB.out HO.out (Nat.le_refl _) hk)
    obtain ⟨g2, cp2, rfl, _, _, _, _⟩ := hL.form
    have HL2 : Hid (OwnLs w2 w1.heap.size (.slice (some ⟨g2, 0, none⟩) (roundL t b).length cp2) (roundL t b) us2 vs2) := hL
    have HFM : Hid (∀ X ∈ roundL t b, Fits t X b) := fun X hX => (round_mem HTK.out hb1 hb2).1 hX
    have HNR : Hid (nearR t b = (roundL t b)[bestAt (farK t (roundL t b)) (roundL t b).length]?.getD []) := rfl
    have HE : Hid ((fillL t b (t.length * wid t 0) 0 t).length = (roundL t b).length) := rfl
    have hs12 : w.heap.size ≤ w1.heap.size := HB.out.size
    have HT2 := Lib.hid (HT.out.below BF.out)
    rw [HE.out]
    clear hL hk b1' HB HO HNX HE
    generalize roundL t b = L at *
    have hcell : ∀ k, k < L.length → ∃ gk ck, us2[k]? = some (.slice (some ⟨gk, 0, none⟩) (L[k]?.getD []).length ck) ∧ w2.cell? ⟨g2, k, none⟩ = some (.slice (some ⟨gk, 0, none⟩) (L[k]?.getD []).length ck) ∧
        OwnU w2 w1.heap.size (.slice (some ⟨gk, 0, none⟩) (L[k]?.getD []).length ck) (L[k]?.getD []) (vs2[k]?.getD []) := by
      intro k hk
      have ht := HL2.out.tabs k hk
      obtain ⟨gk, ck, e, _⟩ := ht.form
      have hu : us2[k]? = some (.slice (some ⟨gk, 0, none⟩) (L[k]?.getD []).length ck) := by
        have hlt : k < us2.length := by rw [HL2.out.us]; exact hk
        rw [List.getElem?_eq_getElem hlt] at e ⊢
        simpa using e
      rw [e] at ht
      exact ⟨gk, ck, hu, by rw [HL2.out.outer.cellAt k (by omega), hu], ht⟩
    have HC := Lib.hid hcell
    have HSX : Hid (∀ k, k < L.length → same t (L[k]?.getD []) ∧ lensT (L[k]?.getD [])) := fun k hk => by
      have hm : L[k]?.getD [] ∈ L := by rw [List.getElem?_eq_getElem hk]; exact List.getElem_mem hk
      have := (HFM.out _ hm).2.2.1
      exact ⟨this, lens_same HTK.out this⟩
    clear hcell
    obtain ⟨f, hf⟩ : ∃ f, farK t L = f := ⟨_, rfl⟩
    have HF : Hid (∀ k, farOf t (L[k]?.getD []) = f k) := fun k => by rw [← hf]; rfl
    rw [hf] at HNR
    clear hf
    go_wp2_with fail
    go_loopw [7, 8] (fun s i wr => ∃ (k n : Nat), k ≤ L.length ∧ i = .int .i64 k ∧ s = .int .i64 (bestAt f k : Int) ∧ wr = w2.drewN n) (fun _ i _ => L.length - (intOf i).toNat)
    case atStart => exact ⟨0, 0, Nat.zero_le _, rfl, rfl, rfl⟩
    case round =>
      obtain ⟨k, n2, hk, rfl, rfl, rfl⟩ := hrel
      have hbl : k < L.length → bestAt f k < L.length := fun h => by
        by_cases e : k = 0
        · subst e; exact h
        · have := bestAt_lt f k (by omega); omega
      by_cases hlt : k < L.length
      · have hbk := hbl hlt
        obtain ⟨gk, ck, _, hc1, ho1⟩ := HC.out k hlt
        obtain ⟨gj, cj, _, hc2, ho2⟩ := HC.out (bestAt f k) hbk
        have HI1 := Lib.hid ho1.ints
        have HI2 := Lib.hid ho2.ints
        have L1 := Lib.hid (HSX.out k hlt).2
        have L2 := Lib.hid (HSX.out (bestAt f k) hbk).2
        have F1 := Lib.hid (HF.out k)
        have F2 := Lib.hid (HF.out (bestAt f k))
        have HBS : Hid (bestAt f (k + 1) = if f k < f (bestAt f k) then k else bestAt f k) := rfl
        have hki : (k : Int) < (L.length : Int) := by omega
        have hji : (bestAt f k : Int) < (L.length : Int) := by omega
        clear ho1 ho2 hbl
        generalize bestAt f k = j at *
        generalize L[k]?.getD [] = Xk at *
        generalize L[j]?.getD [] = Xj at *
        have C1 : Hid (∀ m, Calls Try.prog 39 #[.slice a t.length cap, .slice (some ⟨gk, 0, none⟩) Xk.length ck] (w2.drewN (n2 + m)) fun e w' => e = .returned (.int .i64 (f k)) ∧ ∃ n, w' = w2.drewN (n2 + n)) := fun m => by
          refine (sControlFar (w2.drewN (n2 + m)) _ _ _ _ t Xk (HT2.out.drewN _) (HI1.out.drewN _) HL.out L1.out).mono ?_
          rintro e w' ⟨rfl, q, rfl⟩
          exact ⟨by rw [F1.out], m + q, by rw [World.drewN_drewN, Nat.add_assoc]⟩
        have C2 : Hid (∀ m, Calls Try.prog 39 #[.slice a t.length cap, .slice (some ⟨gj, 0, none⟩) Xj.length cj] (w2.drewN (n2 + m)) fun e w' => e = .returned (.int .i64 (f j)) ∧ ∃ n, w' = w2.drewN (n2 + n)) := fun m => by
          refine (sControlFar (w2.drewN (n2 + m)) _ _ _ _ t Xj (HT2.out.drewN _) (HI2.out.drewN _) HL.out L2.out).mono ?_
          rintro e w' ⟨rfl, q, rfl⟩
          exact ⟨by rw [F2.out], m + q, by rw [World.drewN_drewN, Nat.add_assoc]⟩
        by_cases hd : f k < f j
        · have HB2 : Hid (bestAt f (k + 1) = k) := by unfold Hid; rw [HBS.out, if_pos hd]
          have d1 : decide (f k < f j) = true := by simpa using hd
          clear hd HBS
          go_wp2_with fail
          go_quiet ((go_at_call 39; first | with_reducible exact C1.out _ | with_reducible exact C2.out _))
          go_wp2_with fail
          go_roundw
          case rel => exact ⟨k + 1, _, by omega, by go_num, by rw [HB2.out], rfl⟩
          case measure => simp [intOf]; omega
        · have HB2 : Hid (bestAt f (k + 1) = j) := by unfold Hid; rw [HBS.out, if_neg hd]
          have d1 : decide (f k < f j) = false := by simpa using hd
          clear hd HBS
          go_wp2_with fail
          go_quiet ((go_at_call 39; first | with_reducible exact C1.out _ | with_reducible exact C2.out _))
          go_wp2_with fail
          go_roundw
          case rel => exact ⟨k + 1, _, by omega, by go_num, by rw [HB2.out], rfl⟩
          case measure => simp [intOf]; omega
      · have hke : k = L.length := by omega
        subst hke
        have hbk := bestAt_lt f L.length hcp
        obtain ⟨gj, cj, _, hc2, ho2⟩ := HC.out (bestAt f L.length) hbk
        have hlx : (L[bestAt f L.length]?.getD []).length = t.length := (HSX.out _ hbk).1.1.symm
        rw [hlx] at hc2 ho2
        rw [← HNR.out] at ho2
        have HO2 := Lib.hid ((ho2.mono hs12).drewN n2)
        have hji : (bestAt f L.length : Int) < (L.length : Int) := by omega
        clear ho2 hlx hbl
        generalize bestAt f L.length = j at *
        go_wp2_with fail
        go_ret2
        exact ⟨below_drewN BF.out n2, .inr ⟨HSM.out, gj, cj, _, rfl, HO2.out⟩⟩
  · have D : Hid (decide (small t b) = false) := by unfold Hid; simpa using hs
    rw [D.out]
    clear D
    go_wp2_with fail
    go_ret2
    exact ⟨(below_drewN (Below.refl _ _) n).alloc (Nat.le_refl _) _, .inl ⟨hs, _, rfl, OwnU.empty (w.drewN n) w.heap.size (Nat.le_refl _)⟩⟩

end Go.Proofs.Ytigdgcpjkeaooaa

namespace Go.Proofs.Ytigdgcpjkeaooaa

theorem S_bds {m : Int} {f : Nat → Int} : ∀ n : Nat, (∀ j, j < n → 0 ≤ f j ∧ f j ≤ m) → 0 ≤ S n f ∧ S n f ≤ n * m
  | 0, _ => by simp [S]
  | n + 1, h => by
    have h1 := S_bds n (fun j hj => h j (by omega))
    have h2 := h n (by omega)
    have e : ((n + 1 : Nat) : Int) * m = n * m + m := by rw [Int.natCast_succ, Int.add_mul, Int.one_mul]
    rw [S, e]
    omega
theorem cOk_bd2 {b c x : Int} (hb : 2 ≤ b) (hb2 : b ≤ 20) (hc : 0 ≤ c) (hc2 : c ≤ 99) (h : cOk b c x) : 0 ≤ x ∧ x ≤ 119 ∧ max (c - x) (x - c) ≤ b - 1 := by
  have := dn_bd hb hc
  rcases h with h | ⟨h, h2⟩ <;> omega
theorem fits_small {t x : List (List Int)} {b : Int} (h : Fits t x b) : smallT x := by
  obtain ⟨h1, ⟨h2, h3⟩, h4, h5, _⟩ := h
  refine ⟨by rw [← h4.1]; exact h1.2.1, fun i hi => ?_⟩
  rw [← h4.1] at hi
  refine ⟨by rw [← h4.2 i hi, (h1.2.2.2.2 i hi).1]; exact h1.2.2.2.1, fun j hj => ?_⟩
  rw [← h4.2 i hi, (h1.2.2.2.2 i hi).1] at hj
  have hc := (h1.2.2.2.2 i hi).2 j hj
  have := cOk_bd2 h2 h3 hc.1 hc.2 (h5 i hi j hj)
  omega
theorem far_bd {t x : List (List Int)} {b : Int} (h : Fits t x b) : farOf t x = farS t x ∧ 0 ≤ farS t x ∧ farS t x < b * (t.length : Int) * (wid t 0 : Int) := by
  have hf := farOf_same h.1.small (fits_small h) h.2.2.1
  refine ⟨hf.1, hf.2.1, ?_⟩
  obtain ⟨h1, ⟨h2, h3⟩, h4, h5, _⟩ := h
  have hS : farS t x ≤ (t.length : Int) * ((wid t 0 : Int) * (b - 1)) := by
    refine (S_bds (m := (wid t 0 : Int) * (b - 1)) t.length (fun i hi => ?_)).2
    have hwe := (h1.2.2.2.2 i hi).1
    rw [hwe]
    refine ⟨(S_bds (m := b - 1) _ (fun j hj => ?_)).1, (S_bds (m := b - 1) _ (fun j hj => ?_)).2⟩
    all_goals
      have hc := (h1.2.2.2.2 i hi).2 j hj
      have := cOk_bd2 h2 h3 hc.1 hc.2 (h5 i hi j hj)
      unfold dif; omega
  have hp : (1 : Int) ≤ (t.length : Int) * (wid t 0 : Int) := by
    have a1 := h1.1
    have a2 := h1.2.2.1
    have := Nat.mul_le_mul a1 a2
    have h : (1 : Int) ≤ ((t.length * wid t 0 : Nat) : Int) := by omega
    rwa [Int.natCast_mul] at h
  have e1 : (t.length : Int) * ((wid t 0 : Int) * (b - 1)) = b * (t.length : Int) * (wid t 0 : Int) - (t.length : Int) * (wid t 0 : Int) := by
    rw [Int.mul_sub, Int.mul_one, Int.mul_sub, Int.mul_comm (wid t 0 : Int) b, ← Int.mul_assoc, Int.mul_comm (t.length : Int) b]
  omega

end Go.Proofs.Ytigdgcpjkeaooaa

namespace Go.Proofs.Ytigdgcpjkeaooaa
open Go.RowKit

end Go.Proofs.Ytigdgcpjkeaooaa
