/- Contract: DiffTable of the reference. -/
import Derived.Test.YtdlpcoafbmhjjaaDiffI
import Derived.Test.YtdlpcoafbmhjjaaSpecV0
import Derived.Deep.QuietTactic
import Derived.BigQuiet
namespace Go.Proofs.Ytdlpcoafbmhjjaa
open Go.RowKit

theorem tail_plain {P : Program} {id : Nat} {Q : Exit → Act → World → Prop} {a : Act} {w : World} {l : List Oper} (n : Nat) (hm : P.follows .mixedOrders = true) (hB : Region.lexTailB .any l.toArray n = true)
    (h : wpStill P l.toArray w.drew (fun a' => wpList P l.toArray Q (l.drop n) a' w.drew) (l.take n) a) : (Code.region id l.toArray true).wp P Q a w := wp_region_still_tail n hm hB h

/-- the cells of the first rows, and the first ones of one row, have been taken away -/
def subS (a b x : List (List Int)) (k q : Nat) : Prop := same a x ∧ ∀ i, i < a.length → ∀ j, j < wid a 0 → cel x i j = if i < k ∨ (i = k ∧ j < q) then cel a i j - cel b i j else cel a i j
theorem subS_next {a b x : List (List Int)} {k : Nat} (h : subS a b x k (wid a 0)) : subS a b x (k + 1) 0 :=
  ⟨h.1, fun i hi j hj => by
    rw [h.2 i hi j hj]
    by_cases e : i < k ∨ (i = k ∧ j < wid a 0)
    · rw [if_pos e, if_pos (by omega)]
    · rw [if_neg e, if_neg (by omega)]⟩
theorem subS_set {a b x : List (List Int)} {k q : Nat} (h : subS a b x k q) (hk : k < a.length) (hq : q < wid a 0) (hw : wid a k = wid a 0) {v : Int} (he : v = cel a k q - cel b k q) : subS a b (setT x k q v) k (q + 1) :=
  ⟨⟨by rw [setT_len]; exact h.1.1, fun i hi => by rw [setT_wid]; exact h.1.2 i hi⟩, fun i hi j hj => by
    rw [setT_cel (by rw [← h.1.1]; exact hk) (by rw [← h.1.2 k hk, hw]; exact hq)]
    by_cases e2 : i = k ∧ j = q
    · rw [if_pos e2, if_pos (by omega), e2.1, e2.2, he]
    · rw [if_neg e2, h.2 i hi j hj]
      by_cases e : i < k ∨ (i = k ∧ j < q)
      · rw [if_pos e, if_pos (by omega)]
      · rw [if_neg e, if_neg (by omega)]⟩
theorem subS_all {a b x : List (List Int)} (ha : tblOk a) (h : subS a b x a.length 0) : x = subT a b := by
  have hs2 := subT_same (b := b) ha
  refine tab_ext ⟨by rw [← h.1.1]; exact hs2.1, fun i hi => by rw [← h.1.1] at hi; rw [← h.1.2 i hi]; exact hs2.2 i hi⟩ (fun i j hi hj => ?_)
  rw [← h.1.1] at hi
  rw [← h.1.2 i hi, (ha.2.2.2.2 i hi).1] at hj
  rw [h.2 i hi j hj, if_pos (by omega), subT, mkT_cel hi hj]

/-- what the difference of two tables leaves, in the reference -/
def DiffDS (w : World) (a b : List (List Int)) (e : Ending) (w' : World) : Prop :=
  Below w.heap.size w w' ∧ ((¬ diffOk a b ∧ ∃ v, e = .returned (.tuple #[v, .bool false])) ∨
      (diffOk a b ∧ ∃ g cap us, e = .returned (.tuple #[.slice (some ⟨g, 0, none⟩) a.length cap, .bool true]) ∧ OwnU w' w.heap.size (.slice (some ⟨g, 0, none⟩) a.length cap) (subT a b) us))

set_option maxRecDepth 100000 in
set_option maxHeartbeats 4000000 in
theorem sDiffTable (w : World) (P Q : Nat → Prop) (va vb : Value) (a b : List (List Int)) (ha : IntSS w P va a) (hb : IntSS w Q vb b) (la : lensT a) (lb : lensT b) :
    Calls Try.prog 29 #[va, vb] w (DiffDS w a b) := by
  have HA := Lib.hid ha
  have HB := Lib.hid (hb.mono (Q := (· < w.heap.size)) (fun _ _ h => h))
  have LA := Lib.hid la
  have LB := Lib.hid lb
  obtain ⟨aa, ca, rfl, _, _⟩ := ha
  obtain ⟨ab, cb, rfl, _, _⟩ := hb
  clear la lb
  have C1 : Hid (∀ m, Calls Try.prog 43 #[.slice aa a.length ca] (w.drewN m) fun e w' => e = .returned (.bool (decide (tblOk a))) ∧ ∃ n, w' = w.drewN n) := fun m => by
    refine (sTableValid (w.drewN m) _ _ a (HA.out.drewN m) LA.out).mono ?_
    rintro e w' ⟨rfl, q, rfl⟩
    exact ⟨rfl, m + q, by rw [World.drewN_drewN]⟩
  have C2 : Hid (∀ m, Calls Try.prog 43 #[.slice ab b.length cb] (w.drewN m) fun e w' => e = .returned (.bool (decide (tblOk b))) ∧ ∃ n, w' = w.drewN n) := fun m => by
    refine (sTableValid (w.drewN m) _ _ b (HB.out.drewN m) LB.out).mono ?_
    rintro e w' ⟨rfl, q, rfl⟩
    exact ⟨rfl, m + q, by rw [World.drewN_drewN]⟩
  have bad : ∀ n, ¬ diffOk a b → DiffDS w a b (.returned (.tuple #[.slice (some ⟨w.heap.size, 0, none⟩) 0 0, .bool false])) ((w.drewN n).alloc (.cells #[] 42)) := fun n hn =>
    ⟨(below_drewN (Below.refl _ _) n).alloc (Nat.le_refl _) _, .inl ⟨hn, _, rfl⟩⟩
  by_cases hoa : tblOk a
  rotate_left
  · rw [decide_eq_false hoa] at C1
    have HN : Hid (¬ diffOk a b) := fun h => hoa h.1
    clear hoa
    go_enter Try.func29, Try.ntmps29
    go_wp2_with fail
    go_quiet ((go_at_call 43; first | with_reducible exact C1.out _ | with_reducible exact C2.out _))
    go_wp2_with fail
    go_ret2
    exact bad _ HN.out
  rw [decide_eq_true hoa] at C1
  by_cases hob : tblOk b
  rotate_left
  · rw [decide_eq_false hob] at C2
    have HN : Hid (¬ diffOk a b) := fun h => hob h.2.1
    clear hob hoa
    go_enter Try.func29, Try.ntmps29
    go_wp2_with fail
    go_quiet ((go_at_call 43; first | with_reducible exact C1.out _ | with_reducible exact C2.out _))
    go_wp2_with fail
    go_ret2
    exact bad _ HN.out
  rw [decide_eq_true hob] at C2
  have KA := Lib.hid hoa
  have KB := Lib.hid hob
  have pa : 0 < a.length := hoa.1
  have pb : 0 < b.length := hob.1
  have pai : (0 : Int) < (a.length : Int) := by omega
  have pbi : (0 : Int) < (b.length : Int) := by omega
  clear hoa hob
  by_cases hl : a.length = b.length
  rotate_left
  · have HN : Hid (¬ diffOk a b) := fun h => hl h.2.2.1.1
    have cl : ((a.length : Int) != (b.length : Int)) = true := by simp; omega
    clear hl
    go_enter Try.func29, Try.ntmps29
    go_wp2_with fail
    go_quiet ((go_at_call 43; first | with_reducible exact C1.out _ | with_reducible exact C2.out _))
    go_wp2_with fail
    go_ret2
    exact bad _ HN.out
  have cl : ((a.length : Int) != (b.length : Int)) = false := by simp; omega
  obtain ⟨_, _, ea, _, ra⟩ := HA.out
  cases ea
  obtain ⟨_, _, eb, _, rb⟩ := HB.out
  cases eb
  obtain ⟨b1, o1, a1, c1', rfl, _, hc1, _⟩ := ra.rowW pa
  obtain ⟨b2, o2, a2, c2', rfl, _, hc2, _⟩ := rb.rowW pb
  clear ra rb
  rw [Nat.add_zero] at hc1 hc2
  by_cases hw : wid a 0 = wid b 0
  rotate_left
  · have HN : Hid (¬ diffOk a b) := fun h => hw (h.2.2.1.2 0 pa)
    have cw : ((wid a 0 : Int) != (wid b 0 : Int)) = true := by simp; omega
    clear hl hw
    go_enter Try.func29, Try.ntmps29
    go_wp2_with fail
    go_quiet ((go_at_call 43; first | with_reducible exact C1.out _ | with_reducible exact C2.out _))
    go_wp2_with fail
    go_ret2
    exact bad _ HN.out
  have cw : ((wid a 0 : Int) != (wid b 0 : Int)) = false := by simp; omega
  have SM : Hid (same a b) := ⟨hl, fun i hi => by rw [(KA.out.2.2.2.2 i hi).1, (KB.out.2.2.2.2 i (by omega)).1]; exact hw⟩
  clear hl hw
  go_enter Try.func29, Try.ntmps29
  go_wp2_with fail
  go_quiet ((go_at_call 43; first | with_reducible exact C1.out _ | with_reducible exact C2.out _))
  go_wp2_with fail
  with_reducible refine (sCopy _ _ _ a (HA.out.drewN nq) (lensR' KA.out).1 (lensR' KA.out).2).mono ?_
  rintro e w1 ⟨v, us, rfl, ho, bl1⟩
  obtain ⟨g, cp, rfl, _, _, _, _⟩ := ho.form
  have hBW : Below w.heap.size w w1 := (below_drewN (Below.refl _ w) nq).trans bl1
  have HO : Hid (OwnU w1 w.heap.size (.slice (some ⟨g, 0, none⟩) a.length cp) a us) := ho
  have HBW := Lib.hid hBW
  have HAT : Hid (∀ X, Below w.heap.size w X → IntSS X (· < w.heap.size) (.slice (some ⟨b1, o1, none⟩) a.length ca) a) := fun X hX => (HA.out.mono (fun _ _ h => h)).below hX
  have HBT : Hid (∀ X, Below w.heap.size w X → IntSS X (· < w.heap.size) (.slice (some ⟨b2, o2, none⟩) b.length cb) b) := fun X hX => HB.out.below hX
  have hwp : 1 ≤ wid a 0 := KA.out.2.2.1
  have hwp4 : wid a 0 ≤ 4 := KA.out.2.2.2.1
  have pa4 : a.length ≤ 4 := KA.out.2.1
  have HXX : Hid (subS a b a 0 0) := ⟨⟨rfl, fun _ _ => rfl⟩, fun i _ j _ => by rw [if_neg (by omega)]⟩
  clear ho bl1 hBW hc1 hc2 HA HB C1 C2 cl cw
  go_wp2_with fail
  go_loopw [7] (fun i wr => ∃ (k : Nat) (x : List (List Int)), k ≤ a.length ∧ i = .int .i64 k ∧ Hid (OwnU wr w.heap.size (.slice (some ⟨g, 0, none⟩) a.length cp) x us) ∧ Hid (subS a b x k 0) ∧ Hid (Below w.heap.size w wr)) (fun i _ => a.length - (intOf i).toNat)
  case atStart => exact ⟨0, a, Nat.zero_le _, rfl, HO, HXX, HBW⟩
  case round =>
    obtain ⟨k, x, hk, rfl, hx, hrf, hbl⟩ := hrel
    by_cases hlt : k < a.length
    · have hltb : k < b.length := by rw [← SM.out.1]; exact hlt
      have hwa : Hid (wid a k = wid a 0) := (KA.out.2.2.2.2 k hlt).1
      have hwb : Hid (wid b k = wid a 0) := by unfold Hid; rw [← SM.out.2 k hlt]; exact hwa.out
      have ka : (k : Int) < (a.length : Int) := by omega
      have kb : (k : Int) < (b.length : Int) := by omega
      go_wp2_with fail
      go_loopw [8] (fun j wr => ∃ (q : Nat) (x : List (List Int)), q ≤ wid a 0 ∧ j = .int .i64 q ∧ Hid (OwnU wr w.heap.size (.slice (some ⟨g, 0, none⟩) a.length cp) x us) ∧ Hid (subS a b x k q) ∧ Hid (Below w.heap.size w wr)) (fun j _ => wid a 0 - (intOf j).toNat)
      case atStart => exact ⟨0, x, Nat.zero_le _, rfl, hx, hrf, hbl⟩
      case round =>
        clear hx hrf hbl
        obtain ⟨q, x, hq, rfl, hx, hrf, hbl⟩ := hrel
        obtain ⟨b', o', tb0, to0, tc0, hq0, _, hr0, _⟩ := (HAT.out _ hbl.out).at (i := 0) (j := 0) pa hwp
        cases hq0
        rw [Nat.add_zero] at hr0
        by_cases hqlt : q < wid a 0
        · obtain ⟨b', o', tb2, to2, tc2, hq0, _, hr1, hr2⟩ := (HBT.out _ hbl.out).at (i := k) (j := q) hltb (by rw [hwb.out]; exact hqlt)
          cases hq0
          rw [hwb.out] at hr1
          have hxi : k < x.length := by rw [← hrf.out.1.1]; exact hlt
          have hwx : wid x k = wid a 0 := by rw [← hrf.out.1.2 k hlt]; exact hwa.out
          obtain ⟨gi, ci, hu, hrow, hgi, _, _, _, _, _⟩ := hx.out.rowW hxi
          obtain ⟨hcel, hfrz⟩ := hx.out.at hxi hu (j := q) (by unfold wid at hwx hqlt; omega)
          change wr.cell? ⟨gi, q, none⟩ = some (.int .i64 (cel x k q)) at hcel
          rw [hwx] at hrow
          have hxv : cel x k q = cel a k q := by rw [hrf.out.2 k hlt q hqlt, if_neg (by omega)]
          have hca := (KA.out.2.2.2.2 k hlt).2 q hqlt
          have hcb := (KB.out.2.2.2.2 k hltb).2 q (by rw [← (KB.out.2.2.2.2 k hltb).1, hwb.out]; exact hqlt)
          obtain ⟨z1, hz1⟩ : ∃ z, cel a k q = z := ⟨_, rfl⟩
          obtain ⟨z2, hz2⟩ : ∃ z, cel b k q = z := ⟨_, rfl⟩
          have HRF : Hid (subS a b (setT x k q (z1 - z2)) k (q + 1)) := subS_set hrf.out hlt hqlt hwa.out (by rw [hz1, hz2])
          rw [hxv, hz1] at hcel
          rw [hz2] at hr2 hcb
          rw [hz1] at hca
          have HU := Lib.hid hu
          have hw1 : IntKind.i64.wrap (z1 - z2) = z1 - z2 := by rw [IntKind.wrap_i64]; omega
          have qi : (q : Int) < (wid a 0 : Int) := by omega
          clear hxv hca hcb hz1 hz2 hu
          go_wp2_with fail
          refine tail_plain 21 (by kernel_rfl) (by kernel_rfl) ?_
          simp only [List.take_succ_cons, List.take_zero, List.drop_succ_cons, List.drop_zero]
          replace hx := Lib.hid (hx.out.drewN 1)
          replace hbl := Lib.hid (hbl.out.drew)
          change wr.drew.cell? _ = _ at hr0 hr1 hr2 hrow hcel
          change wr.drew.frozen? _ = _ at hfrz
          change Hid (OwnU wr.drew _ _ _ _) at hx
          generalize wr.drew = wd at *
          repeat still_step
          refine wpStill_nil ?_
          have HX2 := Lib.hid (OwnU.setT hx.out hxi HU.out q (z1 - z2))
          have HB2 := Lib.hid (hbl.out.setCell (p := ⟨gi, q, none⟩) (by simp; omega) (.int .i64 (z1 - z2)))
          go_wp2_with fail
          go_roundw
          case rel => exact ⟨q + 1, _, by omega, by go_num, HX2, HRF, HB2⟩
          case measure => simp [intOf]; omega
        · have HRF : Hid (subS a b x (k + 1) 0) := subS_next (by have := hrf.out; rwa [show q = wid a 0 by omega] at this)
          go_wp2_with fail
          go_roundw
          case rel => exact ⟨k + 1, x, by omega, by go_num, hx, HRF, hbl⟩
          case measure => simp [intOf]; omega
    · have hke : k = a.length := by omega
      subst hke
      have hxe : Hid (x = subT a b) := subS_all KA.out hrf.out
      have LX : Hid (lensT x) := by
        refine ⟨by rw [← hrf.out.1.1]; exact LA.out.1, fun i => ?_⟩
        by_cases hi : i < a.length
        · rw [← hrf.out.1.2 i hi]; exact LA.out.2 i
        · unfold wid; rw [List.getElem?_eq_none (by rw [← hrf.out.1.1]; omega)]; simp
      clear hrf
      go_wp2_with fail
      with_reducible refine (sTableValid _ _ _ x hx.out.ints LX.out).mono ?_
      rintro e w7 ⟨rfl, n7, rfl⟩
      by_cases hok : tblOk x
      · rw [decide_eq_true hok]
        have HX3 : Hid (OwnU (wr.drewN n7) w.heap.size (.slice (some ⟨g, 0, none⟩) a.length cp) (subT a b) us) := by have := hx.out.drewN n7; rw [hxe.out] at this; exact this
        have HOK : Hid (diffOk a b) := ⟨KA.out, KB.out, SM.out, by rw [← hxe.out]; exact hok⟩
        clear hok
        go_wp2_with fail
        go_ret2
        exact ⟨below_drewN hbl.out _, .inr ⟨HOK.out, g, cp, us, rfl, HX3.out⟩⟩
      · rw [decide_eq_false hok]
        have HOK : Hid (¬ diffOk a b) := fun h => hok (by rw [hxe.out]; exact h.2.2.2)
        clear hok
        go_wp2_with fail
        go_ret2
        exact ⟨(below_drewN hbl.out _).alloc (by have := hbl.out.size; exact this) _, .inl ⟨HOK.out, _, rfl⟩⟩

end Go.Proofs.Ytdlpcoafbmhjjaa
