/- Contract: DiffTable of the program. -/
import Derived.Test.YtdlpcoafbmhjjaaDiffP
import Derived.Test.YtdlpcoafbmhjjaaDrawT2
import Derived.Test.YtdlpcoafbmhjjaaCopyT
import Derived.Test.YtdlpcoafbmhjjaaSums
import Derived.Test.YtdlpcoafbmhjjaaValid
import Derived.Test.YtdlpcoafbmhjjaaInRnd
import Derived.Test.YtdlpcoafbmhjjaaCells
import Derived.Test.YtdlpcoafbmhjjaaKeeps
namespace Go.Proofs.Ytdlpcoafbmhjjaa
open Go.RowKit Go.Shelf

attribute [local go_sem] Oper.semAt_some

theorem lensR' {t : List (List Int)} (ht : tblOk t) : t.length ≤ 1000 ∧ ∀ j, j < t.length → 1 ≤ (t[j]?.getD []).length ∧ (t[j]?.getD []).length ≤ 1000 := by
  refine ⟨by have := ht.2.1; omega, fun j hj => ?_⟩
  have := (ht.2.2.2.2 j hj).1
  have h1 := ht.2.2.1
  have h2 := ht.2.2.2.1
  unfold wid at *
  omega

/-- what the difference of two tables leaves -/
def DiffD (w : World) (a b : List (List Int)) (e : Ending) (w' : World) : Prop :=
  Below w.heap.size w w' ∧ ((¬ diffOk a b ∧ e = .returned (.tuple #[.slice none 0 0, .bool false])) ∨
      (diffOk a b ∧ ∃ g cap us, e = .returned (.tuple #[.slice (some ⟨g, 0, none⟩) a.length cap, .bool true]) ∧ OwnU w' w.heap.size (.slice (some ⟨g, 0, none⟩) a.length cap) (subT a b) us))

set_option maxRecDepth 100000 in
set_option maxHeartbeats 4000000 in
theorem iDiffTable (w : World) (P Q : Nat → Prop) (va vb : Value) (a b : List (List Int)) (ha : IntSS w P va a) (hb : IntSS w Q vb b) (la : lensT a) (lb : lensT b) :
    Calls Try.prog 14 #[va, vb] w (DiffD w a b) := by
  have HA := Lib.hid ha
  have HB := Lib.hid hb
  have LA := Lib.hid la
  have LB := Lib.hid lb
  obtain ⟨aa, ca, rfl, _, _⟩ := ha
  obtain ⟨ab, cb, rfl, _, _⟩ := hb
  clear la lb
  refine (callsIn_wide (n := 6)).1 ?_
  refine callsIn_of_wp_marks Try.func14 rfl trivial ?_ rfl
  simp only [Try.ntmps14, List.size_toArray, List.length_cons, List.length_nil, Nat.reduceAdd, Nat.reduceSub, Array.replicate_succ, Array.replicate_zero, List.push_toArray, List.append_toArray, List.nil_append, List.cons_append]
  refine wpIn_noFail (wpIn_wide.2 ?_)
  have kT := Boxed.new w 29 (.slice ab b.length cb)
  have c1 := kT.cell
  have hB0 : Below w.heap.size w (w.alloc (.cells #[.slice ab b.length cb] 29)) := (Below.refl _ _).alloc (Nat.le_refl _) _
  have HA0 := Lib.hid (HA.out.below hB0)
  have HB0 := Lib.hid (HB.out.below hB0)
  have hs0 : (w.alloc (.cells #[.slice ab b.length cb] 29)).heap.size = w.heap.size + 1 := by simp
  go_wp2_with fail
  with_reducible refine (iTableValid _ _ _ a HA0.out LA.out).mono ?_
  rintro e w' ⟨rfl, rfl⟩
  by_cases hoa : tblOk a
  rotate_left
  · rw [decide_eq_false hoa]
    go_wp2_with fail
    refine ⟨.tuple #[.slice none 0 0, .bool false], ?_, hB0, .inl ⟨fun h => hoa h.1, rfl⟩⟩
    simp [results, Try.f14, go_sem]
  rw [decide_eq_true hoa]
  go_wp2_with fail
  with_reducible refine (iTableValid _ _ _ b HB0.out LB.out).mono ?_
  rintro e w' ⟨rfl, rfl⟩
  by_cases hob : tblOk b
  rotate_left
  · rw [decide_eq_false hob]
    go_wp2_with fail
    refine ⟨.tuple #[.slice none 0 0, .bool false], ?_, hB0, .inl ⟨fun h => hob h.2.1, rfl⟩⟩
    simp [results, Try.f14, go_sem]
  rw [decide_eq_true hob]
  go_wp2_with fail
  with_reducible refine (iSame _ _ _ _ _ a b HA0.out HB0.out LA.out LB.out).mono ?_
  rintro e w' ⟨rfl, rfl⟩
  by_cases hsm : same a b
  rotate_left
  · rw [decide_eq_false hsm]
    go_wp2_with fail
    refine ⟨.tuple #[.slice none 0 0, .bool false], ?_, hB0, .inl ⟨fun h => hsm h.2.2.1, rfl⟩⟩
    simp [results, Try.f14, go_sem]
  rw [decide_eq_true hsm]
  have KA := Lib.hid hoa
  have KB := Lib.hid hob
  have SM := Lib.hid hsm
  clear hoa hob hsm
  go_wp2_with fail
  generalize w.alloc (.cells #[.slice ab b.length cb] 29) = W0 at *
  refine (iCopyTable W0 _ _ a HA0.out (lensR' KA.out).1 (lensR' KA.out).2).mono ?_
  rintro e W1 ⟨v, us, rfl, ho, b1⟩
  obtain ⟨g, cp, rfl, hgb, _, _, _⟩ := ho.form
  have HO := Lib.hid ho
  have kT1 := boxBelow kT b1 kT.lt
  have hBW : Below w.heap.size w W1 := hB0.trans (b1.mono hB0.size)
  have HO1 := Lib.hid (ho.alloc (.cells #[.slice (some ⟨g, 0, none⟩) a.length cp] 29))
  clear ho c1
  have c1 := (kT1.alloc (.cells #[.slice (some ⟨g, 0, none⟩) a.length cp] 29)).cell
  go_wp2_with fail
  refine (callsIn_wide.1 (cellsOf_in Fence.wide 6 trivial rfl _ _ _ _)).mono ?_
  rintro e w2 ⟨rfl, rfl⟩
  go_wp2_with fail
  refine (wpIn_wide (n := 6)).1 ?_
  have bO := Boxed.new W1 29 (.slice (some ⟨g, 0, none⟩) a.length cp)
  have kT2 := kT1.alloc (.cells #[.slice (some ⟨g, 0, none⟩) a.length cp] 29)
  have hBW2 : Below w.heap.size w (W1.alloc (.cells #[.slice (some ⟨g, 0, none⟩) a.length cp] 29)) := hBW.alloc hBW.size _
  have hs2 : (W1.alloc (.cells #[.slice (some ⟨g, 0, none⟩) a.length cp] 29)).heap.size = W1.heap.size + 1 := by simp
  have hws : w.heap.size ≤ W1.heap.size := hBW.size
  have hws0 : W0.heap.size ≤ W1.heap.size := b1.size
  generalize W1.alloc (.cells #[.slice (some ⟨g, 0, none⟩) a.length cp] 29) = W2 at *
  rw [← hs2]
  generalize W1.heap.size = p at *
  have hws2 : w.heap.size ≤ W2.heap.size := by omega
  have hws3 : p < W2.heap.size := by omega
  clear hs2 c1 kT1 HO hBW b1 HA HA0 HB0
  have hB1 : Below w.heap.size w (W2.alloc (.cells #[.slice ab b.length cb] 29)) := hBW2.alloc (by omega) _
  have bN := Boxed.new W2 29 (.slice ab b.length cb)
  have HA2 : IntSS (W2.alloc (.cells #[.slice ab b.length cb] 29)) (· < w.heap.size) (.slice ab b.length cb) b := (HB.out.mono (fun _ _ h => h)).below hB1
  have hn16 : (cellsN b).length ≤ 16 := cellsN_le KB.out.2.1 (fun i hi => by have := (KB.out.2.2.2.2 i hi).1; have := KB.out.2.2.2.1; omega)
  refine wpIn_rangeFunc_ownG rfl (by omega) (gf := 47) (lb := #[.pointer (some ⟨W2.heap.size, 0, none⟩)]) rfl trivial (enters_of Try.func47 (by kernel_rfl) rfl)
    (cells_stops Fence.wide (6 - 1) trivial rfl (by omega) W2.heap.size w.heap.size _ b LB.out _ (by simp) bN.cell HA2) belowK_t (belowK_b (by simp; omega)) (Below.refl _ _) (fun _ => rfl)
    (fun pre V => (Boxed V w.heap.size 29 (.slice ab b.length cb) ∧ Boxed V p 29 (.slice (some ⟨g, 0, none⟩) a.length cp) ∧ ∃ X, OwnU V W0.heap.size (.slice (some ⟨g, 0, none⟩) a.length cp) X us ∧ Hid (subTo a b X (pre.map Subtype.val))) ∧ Below w.heap.size w V)
    (fun _ _ _ => False)
    (OwnFrom.and (Own.from (fun s A B row hs hg hr => ⟨boxKept hs.1 hg hr, boxKept hs.2.1 hg hr, by obtain ⟨T, h1, h2⟩ := hs.2.2; exact ⟨T, ownU_own h1 hg hr, h2⟩⟩) _) (ownFrom_below (Nat.le_refl _) (by simp; omega)))
    (fun _ _ _ _ _ hs _ _ => hs)
    ⟨⟨kT2.alloc _, bO.alloc _, _, HO1.out.alloc _, subTo_nil a b⟩, hB1⟩
    (fun x => { tmps := #[.slice aa a.length ca, .slice ab b.length cb, undef, .pointer (some ⟨w.heap.size, 0, none⟩), .slice none 0 0, .bool false, .pointer (some ⟨p, 0, none⟩), .int .i64 (x.1.1 : Int), .int .i64 (x.1.2 : Int), .slice aa a.length ca,
      .bool true, .bool false, .bool false, .slice ab b.length cb, .bool true, .bool false, .bool false, .bool false, .slice aa a.length ca, .slice ab b.length cb,
      .bool true, .bool false, .bool false, .slice aa a.length ca, .slice (some ⟨g, 0, none⟩) a.length cp, .slice ab b.length cb, .func (.func 47) #[] #[.pointer (some ⟨W2.heap.size, 0, none⟩)], .int .i64 (x.1.1 : Int), .int .i64 (x.1.2 : Int),
      undef, undef, undef, undef, undef, undef, undef, undef, undef, undef, undef, undef, undef, undef, undef, undef, undef, undef, undef, undef], defers := [] }) ?assign ?body ?done ?stop
  case assign =>
    intro l x V K hK
    gi_wp2
    exact hK
  case body =>
    rintro l pre ⟨⟨i, j⟩, hi, hj⟩ V ⟨⟨kT, kO, X, hX, hxx⟩, hB⟩ hlen
    simp only at hi hj
    have hia : i < a.length := by rw [SM.out.1]; exact hi
    have hwab : wid a i = wid b i := SM.out.2 i hia
    obtain ⟨b1, o1, b2, o2, c1, e, _, hc1, hc2⟩ := (HB.out.below hB).at hi (j := j) hj
    cases e
    have hiX : i < X.length := by rw [← hxx.out.1.1]; exact hia
    have hwX : wid X i = wid b i := by rw [← hxx.out.1.2 i hia]; exact hwab
    obtain ⟨gi, ci, hu, hrow, hgi, _, _, _, _, _⟩ := hX.rowW hiX
    obtain ⟨hcel, hfrz⟩ := hX.at hiX hu (j := j) (by unfold wid at hwX hj; omega)
    rw [hwX] at hrow
    have hXv := hxx.out.2 i j hia (by omega)
    have hca := (KA.out.2.2.2.2 i hia).2 j (by rw [← (KA.out.2.2.2.2 i hia).1]; omega)
    have hcb := (KB.out.2.2.2.2 i hi).2 j (by rw [← (KB.out.2.2.2.2 i hi).1]; exact hj)
    have hmb := mul_bd (n := (pre.map Subtype.val).count (i, j)) (by have := List.count_le_length (a := (i, j)) (l := pre.map Subtype.val); simp at this; omega) hcb.1 hcb.2
    obtain ⟨z1, hz1⟩ : ∃ z1, cel X i j = z1 := ⟨_, rfl⟩
    obtain ⟨z2, hz2⟩ : ∃ z2, cel b i j = z2 := ⟨_, rfl⟩
    have HTT : Hid (subTo a b (setT X i j (z1 - z2)) ((pre ++ [(⟨(i, j), hi, hj⟩ : Cel b)]).map Subtype.val)) := by
      have := subTo_snoc hxx.out hia (by omega : j < wid a i) (z := z1 - z2) (by rw [hz1, hz2])
      simpa [Hid] using this
    have hzb : -1600 ≤ z1 ∧ z1 ≤ 100 := by rw [← hz1, hXv]; omega
    have hzb2 : 0 ≤ z2 ∧ z2 ≤ 99 := by rw [← hz2]; exact hcb
    have hw1 : IntKind.i64.wrap (z1 - z2) = z1 - z2 := by rw [IntKind.wrap_i64]; omega
    change V.cell? _ = some (Value.int .i64 (cel X i j)) at hcel
    rw [hz1] at hcel
    rw [hz2] at hc2
    have HU := Lib.hid hu
    have hap := box_apart kO hX (p := p)
    have kc1 := kT.cell
    have kc2 := kO.cell
    have i1 : (i : Int) < (b.length : Int) := by omega
    have i2 : (j : Int) < (wid b i : Int) := by omega
    have i3 : (i : Int) < (a.length : Int) := by omega
    have HOX := Lib.hid hX
    clear hu hz1 hz2 hxx hXv hca hcb hmb hlen hX
    gi_wp2
    refine tail_round 16 (by kernel_rfl) (by kernel_rfl) (by kernel_rfl) (by rintro ⟨_, _, h⟩; exact h.elim) ?_
    simp only [List.take_succ_cons, List.take_zero, List.drop_succ_cons, List.drop_zero]
    repeat still_step
    try refine wpStill_nil ?_
    go_wp2
    have hgb : blksU (.slice (some ⟨g, 0, none⟩) a.length cp) us gi := .inr ⟨i, by rw [HOX.out.len]; exact hiX, by rw [HU.out]; rfl⟩
    have hne : gi ≠ p := fun e => hap (e ▸ hgb)
    have hg1 : V.grownBy (V.setCell ⟨gi, j, none⟩ (.int .i64 (z1 - z2))).drew (some gi) := grow_drew (grow_set (grow_refl _ _) _ _)
    exact ⟨((KeepsOthers.setCell _ _ _).trans (KeepsOthers.drew _)).from _, ((Below.refl _ V).setCell (p := ⟨gi, j, none⟩) (by simp; omega) _).drew, ⟨kT.kept hg1 (by simp; omega), kO.kept hg1 (by simp; omega), _, (OwnU.setT HOX.out hiX HU.out j (z1 - z2)).drewN 1, HTT⟩, (hB.setCell (p := ⟨gi, j, none⟩) (by simp; omega) _).drew⟩
  case done =>
    rintro D ys V hD hys ⟨⟨kT, kO, X, hX, hxx⟩, hB⟩ hK
    have kc2 := kO.cell
    have HF : Hid (OwnU V w.heap.size (.slice (some ⟨g, 0, none⟩) a.length cp) (subT a b) us) := by
      have e := hxx.out
      rw [hys] at e
      have := subTo_all KA.out SM.out e
      rw [← this]
      exact hX.mono (by omega)
    have LS : Hid (lensT (subT a b)) := by
      have hs := subT_same (b := b) KA.out
      refine ⟨by rw [← hs.1]; exact LA.out.1, fun i => ?_⟩
      by_cases hi : i < a.length
      · rw [← hs.2 i hi]; exact LA.out.2 i
      · unfold wid; rw [List.getElem?_eq_none (by rw [← hs.1]; omega)]; simp
    clear hX hxx hys
    go_wp2_with fail
    with_reducible refine (iTableValid _ _ _ (subT a b) HF.out.ints LS.out).mono ?_
    rintro e w' ⟨rfl, rfl⟩
    have hBK := hB.trans (belowK_b (w := w) (Nat.le_refl _) V D _ (.deferred none) (by simp at hD; omega) hK rfl rfl)
    by_cases hk : tblOk (subT a b)
    · rw [decide_eq_true hk]
      go_wp2_with fail
      refine ⟨by simp, .inl ⟨_, _, rfl, run_takeDeferred hK, ?_⟩⟩
      refine ⟨.tuple #[.slice (some ⟨g, 0, none⟩) a.length cp, .bool true], ?_, hBK, .inr ⟨⟨KA.out, KB.out, SM.out, hk⟩, g, cp, us, rfl, ownU_own HF.out (grownBy_putObj' V D _) (fun r e => by cases e; exact ⟨_, hK, rfl⟩)⟩⟩
      simp [results, Try.f14, go_sem]
    · rw [decide_eq_false hk]
      go_wp2_with fail
      refine ⟨by simp, .inl ⟨_, _, rfl, run_takeDeferred hK, ?_⟩⟩
      refine ⟨.tuple #[.slice none 0 0, .bool false], ?_, hBK, .inl ⟨fun h => hk h.2.2.2, rfl⟩⟩
      simp [results, Try.f14, go_sem]
  case stop =>
    rintro D c pre V _ _ h _
    exact h.elim

end Go.Proofs.Ytdlpcoafbmhjjaa
