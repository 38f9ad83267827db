/- The program's iterator over the roundings of a table hands out all of them. -/
import Derived.Test.YtigdgcpjkeaooaaFill2
import Derived.RangeFuncBound
import Derived.Test.YtigdgcpjkeaooaaCopyT
namespace Go.Proofs.Ytigdgcpjkeaooaa
open Go.RowKit Go.Shelf

@[go_sem] theorem store_nilF (P : Program) (a : Addr) (m : Mode) (w : World) : (store a .nilFunc m).run P w = stored P w a .nilFunc m := run_store P w a _ m rfl
@[go_sem] theorem store_F (P : Program) (a : Addr) (m : Mode) (w : World) (fn : Fn) (first captured : Array Value) : (store a (.func fn first captured) m).run P w = stored P w a (.func fn first captured) m := run_store P w a _ m rfl

set_option maxHeartbeats 1000000 in
/-- roundings(t, base): both are boxed; the function value captures the boxes -/
theorem iRoundings (w : World) (v : Value) (b : Int) (a : Option Addr) (len cap : Nat) (hv : v = .slice a len cap) :
    Calls Try.prog 32 #[v, .int .i64 b] w fun e w' => e = .returned (.func (.func 44) #[] #[.pointer (some ⟨w.heap.size, 0, none⟩), .pointer (some ⟨w.heap.size + 1, 0, none⟩)]) ∧
      w' = (w.alloc (.cells #[v] 23)).alloc (.cells #[.int .i64 b] 3) := by
  subst hv
  go_enter Try.func32, Try.ntmps32
  go_wp2_with fail
  go_ret
  exact ⟨by simp, rfl⟩

theorem okTo_zero (t : List (List Int)) (b : Int) : okTo t b 0 t := fun q hq => by omega
theorem lensR {t : List (List Int)} (ht : tblOk t) : t.length ≤ 1000 ∧ ∀ j, j < t.length → 1 ≤ (t[j]?.getD []).length ∧ (t[j]?.getD []).length ≤ 1000 := by
  refine ⟨by have := ht.2.1; omega, fun j hj => ?_⟩
  have := (ht.2.2.2.2 j hj).1
  have h1 := ht.2.2.1
  have h2 := ht.2.2.2.1
  unfold wid at this h1 h2
  omega

set_option maxRecDepth 100000 in
set_option maxHeartbeats 4000000 in
theorem iRound1 (P : Nat → Prop) (bx Bt Bb : Nat) (vt : Value) (t : List (List Int)) (b : Int) (ht : tblOk t) (hb : 2 ≤ b) (hb2 : b ≤ 20) (w0 : World)
    (kt : Boxed w0 Bt 23 vt) (kb : Boxed w0 Bb 3 (.int .i64 b)) (hT : IntSS w0 P vt t) (h1 : Bt ≠ bx) (h2 : Bb ≠ bx) (h3 : bx < w0.heap.size) (h4 : ∀ k, P k → k ≠ bx ∧ k < w0.heap.size) :
    SeqRnd Try.prog 44 #[.pointer (some ⟨Bt, 0, none⟩), .pointer (some ⟨Bb, 0, none⟩)] bx (fun X => Fits t X b) (roundL t b) w0 := by
  intro l J W hW hJ hY hJ0
  have hWs := hW.size
  have q1 := kt.lt
  have q2 := kb.lt
  replace kt := boxBelow kt hW kt.lt
  replace kb := boxBelow kb hW kb.lt
  replace hT := hT.below hW
  refine (callsIn_wide (n := 6)).2 ?_
  simp only [List.append_toArray, List.nil_append, List.cons_append]
  have HT := Lib.hid hT
  have HOK := Lib.hid ht
  obtain ⟨a, cap, rfl, _, _⟩ := hT
  obtain ⟨b0, o0, b2, o2, ci, rfl, _, hc1, _⟩ := HT.out.at (i := 0) (j := 0) (by have := ht.1; omega) (by have := ht.2.2.1; omega)
  have hl1 := ht.1
  have c1 := kt.cell
  have HY := Lib.hid hY
  have HJ := Lib.hid hJ
  have HJ0 := Lib.hid hJ0
  have HB4 := Lib.hid h4
  clear ht hY hJ hJ0 h4
  have ky := Boxed.new W 41 (.func (.yield l) #[] #[])
  rw [Nat.add_zero] at hc1
  have hcA := (World.grownBy_alloc W (.cells #[.func (.yield l) #[] #[]] 41) none).cell hc1 (by simp)
  have hWV : Below W.heap.size W (W.alloc (.cells #[.func (.yield l) #[] #[]] 41)) := (Below.refl _ _).alloc (Nat.le_refl _) _
  replace kt := boxBelow kt hWV kt.lt
  replace kb := boxBelow kb hWV kb.lt
  replace HT := Lib.hid (HT.out.below hWV)
  have c2 := kt.cell
  have c3 := fun o => (kt.alloc o).cell
  clear c1 hc1
  go_enter Try.func44, Try.ntmps44
  go_wp2_with fail
  have kw := Boxed.new (W.alloc (.cells #[.func (.yield l) #[] #[]] 41)) 3 (.int .i64 (wid t 0 : Int))
  replace kt := kt.alloc (.cells #[.int .i64 (wid t 0 : Int)] 3)
  replace kb := kb.alloc (.cells #[.int .i64 (wid t 0 : Int)] 3)
  replace ky := ky.alloc (.cells #[.int .i64 (wid t 0 : Int)] 3)
  replace HT := Lib.hid (HT.out.alloc (.cells #[.int .i64 (wid t 0 : Int)] 3))
  replace hWV := hWV.alloc (by simp) (.cells #[.int .i64 (wid t 0 : Int)] 3)
  have hVs : ((W.alloc (.cells #[.func (.yield l) #[] #[]] 41)).alloc (.cells #[.int .i64 (wid t 0 : Int)] 3)).heap.size = W.heap.size + 2 := by simp
  rw [World.size_alloc] at kw
  clear c2 c3 hcA
  generalize (W.alloc (.cells #[.func (.yield l) #[] #[]] 41)).alloc (.cells #[.int .i64 (wid t 0 : Int)] 3) = V at *
  with_reducible refine (iCopyTable V P _ t HT.out (lensR HOK.out).1 (lensR HOK.out).2).mono ?_
  rintro e1 V3 ⟨vx, us, rfl, hX, hB3⟩
  have h3s := hB3.size
  obtain ⟨gx, capx, rfl, _, _, _, _⟩ := id hX.form
  have HX := Lib.hid hX
  clear hX
  have kf := Boxed.new (V3.alloc (.cells #[.slice (some ⟨gx, 0, none⟩) t.length capx] 23)) 42 .nilFunc
  rw [World.size_alloc] at kf
  have f1 := kf.cell
  have f2 := kf.frozen
  go_wp2_with fail
  have hbl : ∀ k, blksU (.slice (some ⟨gx, 0, none⟩) t.length capx) us k → V.heap.size ≤ k ∧ k < V3.heap.size := fun k hk => HX.out.blk hk
  obtain ⟨V5, hV5⟩ : ∃ V5, V5 = (V3.alloc (.cells #[.slice (some ⟨gx, 0, none⟩) t.length capx] 23)).alloc (.cells #[(.func (.func 45) #[] #[.pointer (some ⟨Bt, 0, none⟩), .pointer (some ⟨W.heap.size + 1, 0, none⟩), .pointer (some ⟨V3.heap.size, 0, none⟩), .pointer (some ⟨Bb, 0, none⟩), .pointer (some ⟨W.heap.size, 0, none⟩), .pointer (some ⟨V3.heap.size + 1, 0, none⟩)])] 42) := ⟨_, rfl⟩
  have B5 : Below V3.heap.size V3 V5 := by rw [hV5]; exact ((Below.refl _ _).alloc (Nat.le_refl _) _).alloc (by simp) _
  have B5' : Below V.heap.size V V5 := hB3.trans (B5.mono h3s)
  have k5 : Boxed V5 V3.heap.size 23 (.slice (some ⟨gx, 0, none⟩) t.length capx) := by
    rw [hV5]; exact (Boxed.new V3 _ _).alloc _
  have k6 : Boxed V5 (V3.heap.size + 1) 42 (.func (.func 45) #[] #[.pointer (some ⟨Bt, 0, none⟩), .pointer (some ⟨W.heap.size + 1, 0, none⟩), .pointer (some ⟨V3.heap.size, 0, none⟩), .pointer (some ⟨Bb, 0, none⟩), .pointer (some ⟨W.heap.size, 0, none⟩), .pointer (some ⟨V3.heap.size + 1, 0, none⟩)]) := by
    rw [hV5]; have := Boxed.new (V3.alloc (.cells #[.slice (some ⟨gx, 0, none⟩) t.length capx] 23)) 42 (.func (.func 45) #[] #[.pointer (some ⟨Bt, 0, none⟩), .pointer (some ⟨W.heap.size + 1, 0, none⟩), .pointer (some ⟨V3.heap.size, 0, none⟩), .pointer (some ⟨Bb, 0, none⟩), .pointer (some ⟨W.heap.size, 0, none⟩), .pointer (some ⟨V3.heap.size + 1, 0, none⟩)]); rw [World.size_alloc] at this; exact this
  have h5s : V5.heap.size = V3.heap.size + 2 := by rw [hV5]; simp
  rw [← hV5]
  clear hV5 f1 f2 kf
  have hS : FillW V5 l Bt (W.heap.size + 1) V3.heap.size Bb W.heap.size (V3.heap.size + 1) V.heap.size P (.slice (some ⟨b0, o0, none⟩) t.length cap) (.slice (some ⟨gx, 0, none⟩) t.length capx) t b us t :=
    ⟨boxBelow kt B5' kt.lt, boxBelow kw B5' kw.lt, k5, boxBelow kb B5' kb.lt, boxBelow ky B5' ky.lt, k6, HT.out.below B5', HX.out.below B5, same_refl t⟩
  have hB : FillB W.heap.size V5.heap.size bx Bt (W.heap.size + 1) V3.heap.size Bb W.heap.size (V3.heap.size + 1) P (.slice (some ⟨gx, 0, none⟩) t.length capx) us :=
    ⟨by omega, ⟨h1, by omega⟩, ⟨h2, by omega⟩, by omega, by omega, by omega, by omega, fun k hk => by have := HB4.out k hk; omega, fun k hk => by have := hbl k hk; omega⟩
  have J5 : J V5.heap.size [] V5 := HJ.out _ _ _ _ (by omega) (HJ0.out _ (by omega)) (.of_below (hWV.trans (B5'.mono (by omega))))
  with_reducible refine (iFill W.heap.size V5.heap.size bx l Bt (W.heap.size + 1) V3.heap.size Bb W.heap.size (V3.heap.size + 1) V.heap.size P _ _ t b us HOK.out hb hb2 hB (fun pre W' => J V5.heap.size pre W' ∧ V5.heap.size ≤ W'.heap.size)
    (fun pre A B hA hk => ⟨HJ.out _ pre A B (by omega) hA.1 hk, Nat.le_trans hA.2 hk.size⟩) (fun pre v X W1 hA hF hX => (HY.out _ pre v X W1 (by omega) hA.2 hA.1 hF hX).mono (fun e w' h => ⟨h.1, ⟨h.2.1, Nat.le_trans hA.2 h.2.2.size⟩, h.2.2⟩)) (t.length * wid t 0) 0 (by omega) 0 rfl [] t V5 hS (okTo_zero t b) ⟨J5, Nat.le_refl _⟩).mono ?_
  rintro e6 V6 ⟨rfl, X6, _, _, hJ6, _⟩
  go_wp2_with fail
  go_end0
  exact ⟨⟨_, rfl⟩, V5.heap.size, by omega, hJ6⟩

end Go.Proofs.Ytigdgcpjkeaooaa
