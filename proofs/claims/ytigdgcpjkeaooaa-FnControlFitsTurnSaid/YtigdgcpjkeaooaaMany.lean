/- Contracts: which tables and bases are rounded; how many roundings there are, in the program. -/
import Derived.Test.YtigdgcpjkeaooaaRndIt
import Derived.Test.YtigdgcpjkeaooaaValid
import Derived.Test.YtigdgcpjkeaooaaRound
namespace Go.Proofs.Ytigdgcpjkeaooaa
open Go.RowKit Go.Shelf

attribute [local go_sem] Oper.semAt_some

/-- a table and a base of which roundings are looked for -/
def small (t : List (List Int)) (b : Int) : Prop := tblOk t ∧ t.length * wid t 0 ≤ 9 ∧ 2 ≤ b ∧ b ≤ 20
instance (t : List (List Int)) (b : Int) : Decidable (small t b) := by unfold small; infer_instance

set_option maxHeartbeats 400000 in
theorem iRoundable (w : World) (P : Nat → Prop) (v : Value) (t : List (List Int)) (b : Int) (h : IntSS w P v t) (hl : lensT t) :
    Calls Try.prog 31 #[v, .int .i64 b] w fun e w' => e = .returned (.bool (decide (small t b))) ∧ w = w' := by
  have HT := Lib.hid h
  have HL := Lib.hid hl
  obtain ⟨a, cap, rfl, _, _⟩ := h
  clear hl
  by_cases hok : tblOk t
  · obtain ⟨b0, o0, b2, o2, ci, rfl, _, hc1, _⟩ := HT.out.at (i := 0) (j := 0) (by have := hok.1; omega) (by have := hok.2.2.1; omega)
    rw [Nat.add_zero] at hc1
    have hl1 := hok.1
    have hm2 : (t.length : Int) * (wid t 0 : Int) ≤ 16 := by
      obtain ⟨a1, a2, a3, a4, _⟩ := hok
      have := Nat.mul_le_mul a2 a4
      omega
    have hm3 : (0 : Int) ≤ (t.length : Int) * (wid t 0 : Int) := Int.mul_nonneg (by omega) (by omega)
    have D1 : Hid (decide (tblOk t) = true) := by unfold Hid; simpa using hok
    by_cases h9 : t.length * wid t 0 ≤ 9
    · have d2 : decide ((t.length : Int) * (wid t 0 : Int) ≤ 9) = true := by simp; omega
      by_cases hb : 2 ≤ b ∧ b ≤ 20
      · have D : Hid (decide (small t b) = true) := by unfold Hid; simp only [decide_eq_true_eq]; exact ⟨hok, h9, hb⟩
        obtain ⟨hb1, hb2⟩ := hb
        clear hok h9
        go_enter Try.func31, Try.ntmps31
        go_wp2_with fail
        with_reducible refine (iTableValid _ _ _ t HT.out HL.out).mono ?_
        rintro e w' ⟨rfl, rfl⟩
        rw [D1.out]
        go_wp2_with fail
        with_reducible refine (iIsBase_t _ _ hb1 hb2).mono ?_
        rintro e w' ⟨rfl, rfl⟩
        go_wp2_with fail
        go_ret
        exact ⟨ret_b D.out.symm, rfl⟩
      · have hb' : b < 2 ∨ 20 < b := by omega
        have D : Hid (decide (small t b) = false) := by unfold Hid; simp only [decide_eq_false_iff_not]; exact fun h => hb h.2.2
        clear hok h9 hb
        go_enter Try.func31, Try.ntmps31
        go_wp2_with fail
        with_reducible refine (iTableValid _ _ _ t HT.out HL.out).mono ?_
        rintro e w' ⟨rfl, rfl⟩
        rw [D1.out]
        go_wp2_with fail
        with_reducible refine (iIsBase_f _ _ hb').mono ?_
        rintro e w' ⟨rfl, rfl⟩
        go_wp2_with fail
        go_ret
        exact ⟨ret_b D.out.symm, rfl⟩
    · have d2 : decide ((t.length : Int) * (wid t 0 : Int) ≤ 9) = false := by simp; omega
      have D : Hid (decide (small t b) = false) := by unfold Hid; simp only [decide_eq_false_iff_not]; exact fun h => h9 h.2.1
      clear hok h9
      go_enter Try.func31, Try.ntmps31
      go_wp2_with fail
      with_reducible refine (iTableValid _ _ _ t HT.out HL.out).mono ?_
      rintro e w' ⟨rfl, rfl⟩
      rw [D1.out]
      go_wp2_with fail
      go_ret
      exact ⟨ret_b D.out.symm, rfl⟩
  · have D1 : Hid (decide (tblOk t) = false) := by unfold Hid; simpa using hok
    have D : Hid (decide (small t b) = false) := by unfold Hid; simp only [decide_eq_false_iff_not]; exact fun h => hok h.1
    clear hok
    go_enter Try.func31, Try.ntmps31
    go_wp2_with fail
    with_reducible refine (iTableValid _ _ _ t HT.out HL.out).mono ?_
    rintro e w' ⟨rfl, rfl⟩
    rw [D1.out]
    go_wp2_with fail
    go_ret
    exact ⟨ret_b D.out.symm, rfl⟩

/-- what ControlMany returns -/
def manyR (t : List (List Int)) (b : Int) : Int := if small t b then (cntR t b : Int) else -1

theorem oddN_le (t : List (List Int)) (b : Int) : ∀ n p, oddN t b n p ≤ n
  | 0, _ => Nat.le_refl _
  | n + 1, p => by
    have := oddN_le t b n (p + 1)
    unfold oddN
    split <;> omega
theorem cnt_512 {t : List (List Int)} {b : Int} (h : t.length * wid t 0 ≤ 9) : cntR t b ≤ 512 := by
  have h1 := fill_le t b (t.length * wid t 0) 0 t
  have h2 := oddN_le t b (t.length * wid t 0) 0
  have h3 := Nat.pow_le_pow_right (show 0 < 2 by omega) (show oddN t b (t.length * wid t 0) 0 ≤ 9 by omega)
  unfold cntR roundL
  omega
theorem wrap_small {x : Int} (h1 : -9223372036854775808 ≤ x) (h2 : x ≤ 9223372036854775807) : wrap64 x = x := by unfold wrap64; omega
theorem wrap_succ (x : Int) : wrap64 (wrap64 x + 1) = wrap64 (x + 1) := by unfold wrap64; omega

set_option maxRecDepth 100000 in
set_option maxHeartbeats 2000000 in
theorem iControlMany (w : World) (P : Nat → Prop) (v : Value) (t : List (List Int)) (b : Int) (h : IntSS w P v t) (hl : lensT t) :
    Calls Try.prog 11 #[v, .int .i64 b] w fun e w' => e = .returned (.int .i64 (manyR t b)) ∧ Below w.heap.size w w' := by
  have HT := Lib.hid (h.mono (Q := (· < w.heap.size)) (fun _ _ h => h))
  have HL := Lib.hid hl
  obtain ⟨a, cap, rfl, _, _⟩ := h
  clear hl
  refine (callsIn_wide (n := 6)).1 ?_
  refine callsIn_of_wp_marks Try.func11 rfl trivial ?_ rfl
  simp only [Try.ntmps11, List.size_toArray, List.length_cons, List.length_nil, Nat.reduceAdd, Nat.reduceSub, Array.replicate_succ, Array.replicate_zero, List.push_toArray, List.append_toArray, List.nil_append, List.cons_append]
  refine wpIn_noFail (wpIn_wide.2 ?_)
  go_wp2_with fail
  with_reducible refine (iRoundable _ _ _ t b HT.out HL.out).mono ?_
  rintro e w' ⟨rfl, rfl⟩
  by_cases hs : small t b
  · have D : Hid (decide (small t b) = true) := by unfold Hid; simpa using hs
    have HS := Lib.hid hs
    have HR : Hid (manyR t b = wrap64 (roundL t b).length) := by
      unfold Hid manyR; rw [if_pos hs]; have := cnt_512 (b := b) hs.2.1; unfold cntR at this ⊢; rw [wrap_small (by omega) (by omega)]
    rw [D.out]
    clear hs
    go_wp2_with fail
    with_reducible refine (iRoundings _ _ b _ _ _ rfl).mono ?_
    rintro e w2 ⟨rfl, hw2⟩
    have kx := ((Boxed.new w 3 (.int .i64 0)).alloc (.cells #[.slice a t.length cap] 23)).alloc (.cells #[.int .i64 b] 3)
    have kt := (Boxed.new (w.alloc (.cells #[.int .i64 0] 3)) 23 (.slice a t.length cap)).alloc (.cells #[.int .i64 b] 3)
    have kb := Boxed.new ((w.alloc (.cells #[.int .i64 0] 3)).alloc (.cells #[.slice a t.length cap] 23)) 3 (.int .i64 b)
    have hB : Below w.heap.size w (((w.alloc (.cells #[.int .i64 0] 3)).alloc (.cells #[.slice a t.length cap] 23)).alloc (.cells #[.int .i64 b] 3)) := (((Below.refl _ _).alloc (Nat.le_refl _) _).alloc (by simp) _).alloc (by simp; omega) _
    have hz : (((w.alloc (.cells #[.int .i64 0] 3)).alloc (.cells #[.slice a t.length cap] 23)).alloc (.cells #[.int .i64 b] 3)).heap.size = w.heap.size + 3 := by simp
    rw [← hw2] at kx kt kb hB hz
    rw [World.size_alloc, World.size_alloc] at kb
    rw [World.size_alloc] at kt
    simp only [World.size_alloc]
    clear hw2
    go_wp2_with fail
    refine (wpIn_wide (n := 6)).1 ?_
    have HT2 := HT.out.below hB
    refine wpIn_rangeFunc_rnd (gf := 44) (lb := #[.pointer (some ⟨w.heap.size + 1, 0, none⟩), .pointer (some ⟨w.heap.size + 1 + 1, 0, none⟩)]) rfl (enters_of Try.func44 (by kernel_rfl) rfl) (bx := w.heap.size) (by omega)
      (iRound1 (· < w.heap.size) w.heap.size (w.heap.size + 1) (w.heap.size + 1 + 1) _ t b HS.out.1 HS.out.2.2.1 HS.out.2.2.2 w2 kt kb HT2 (by omega) (by omega) (by omega) (fun k hk => by omega)) rfl
      (fun _ pre W => Boxed W w.heap.size 3 (.int .i64 (wrap64 (pre.length : Int))) ∧ Below w.heap.size w W)
      (fun e pre A B he hA hk => ⟨boxKeeps hA.1 hk (by omega), hA.2.trans (hk.below hA.2.size (fun k _ => by omega))⟩)
      (fun e _ => ⟨by have e0 : wrap64 (([] : List (List (List Int))).length : Int) = 0 := wrap_small (by simp) (by simp)
                      rw [e0]; exact kx, hB⟩)
      (fun v => { tmps := #[.slice a t.length cap, .int .i64 b, undef, undef, .int .i64 0, .pointer (some ⟨w.heap.size, 0, none⟩), .slice a t.length cap, .int .i64 b, .bool true, .bool false, .slice a t.length cap, .int .i64 b, .func (.func 44) #[] #[.pointer (some ⟨w.heap.size + 1, 0, none⟩), .pointer (some ⟨w.heap.size + 1 + 1, 0, none⟩)], v, undef, undef, undef], defers := [] }) ?assign ?body ?done
    case assign =>
      intro l v W K hK
      gi_wp2
      simpa using hK
    case body =>
      rintro l e pre v X W he _ ⟨hx, hbel⟩ _ _
      have c1 := hx.cell
      have c2 := hx.frozen
      have HW : Hid (wrap64 (wrap64 (pre.length : Int) + 1) = wrap64 ((pre ++ [X]).length : Int)) := by unfold Hid; rw [wrap_succ, List.length_append]; rfl
      generalize wrap64 (pre.length : Int) = m at *
      gi_wp2
      refine ⟨Keeps.setCell _ _ _ _ (by simp), ?_, hbel.setCell (p := ⟨w.heap.size, 0, none⟩) (Nat.le_refl _) _⟩
      rw [← HW.out]
      exact hx.set _
    case done =>
      rintro D e W hD he ⟨hx, hbel⟩ hK
      have c1 := hx.cell
      go_wp2_with fail
      refine ⟨by simp, .inl ⟨_, _, rfl, run_takeDeferred hK, ?_⟩⟩
      exact ⟨_, results_tmp rfl _ _ _, by rw [HR.out]; rfl, hbel.trans (belowK_b (w := w) (Nat.le_refl _) W D _ _ (by omega) hK rfl rfl)⟩
  · have D : Hid (decide (small t b) = false) := by unfold Hid; simpa using hs
    have HR : Hid (manyR t b = -1) := by unfold Hid manyR; rw [if_neg hs]
    rw [D.out]
    clear hs
    go_wp2_with fail
    exact ⟨_, results_tmp rfl _ _ _, by rw [HR.out]; rfl, Below.refl _ _⟩

end Go.Proofs.Ytigdgcpjkeaooaa
