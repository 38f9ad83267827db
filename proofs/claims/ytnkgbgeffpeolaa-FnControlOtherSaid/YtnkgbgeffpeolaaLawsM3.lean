/- The walk of the law: what is rounded up can be rounded down. -/
import Derived.Test.YtnkgbgeffpeolaaLawsM2
namespace Go.Proofs.Ytnkgbgeffpeolaa
open Go.RowKit

/-- the cells of the first rows, and the first ones of one row, are turned -/
def reflTo (t x : List (List Int)) (b : Int) (k q : Nat) : Prop := same t x ∧ ∀ i, i < t.length → ∀ j, j < wid t 0 → cel x i j = if i < k ∨ (i = k ∧ j < q) then reflC b (cel t i j) else cel t i j
theorem reflTo_next {t x : List (List Int)} {b : Int} {k : Nat} (h : reflTo t x b k (wid t 0)) : reflTo t x b (k + 1) 0 :=
  ⟨h.1, fun i hi j hj => by
    rw [h.2 i hi j hj]
    by_cases e : i < k ∨ (i = k ∧ j < wid t 0)
    · rw [if_pos e, if_pos (by omega)]
    · rw [if_neg e, if_neg (by omega)]⟩
theorem reflTo_skip {t x : List (List Int)} {b : Int} {k q : Nat} (h : reflTo t x b k q) (he : reflC b (cel t k q) = cel t k q) : reflTo t x b k (q + 1) :=
  ⟨h.1, fun i hi j hj => by
    rw [h.2 i hi j hj]
    by_cases e : i < k ∨ (i = k ∧ j < q)
    · rw [if_pos e, if_pos (by omega)]
    · rw [if_neg e]
      by_cases e2 : i = k ∧ j = q
      · rw [if_pos (by omega), e2.1, e2.2, he]
      · rw [if_neg (by omega)]⟩
theorem reflTo_set {t x : List (List Int)} {b : Int} {k q : Nat} (h : reflTo t x b k q) (hk : k < t.length) (hq : q < wid t 0) (hw : wid t k = wid t 0) {v : Int} (he : reflC b (cel t k q) = v) : reflTo t (setT x k q v) b k (q + 1) :=
  ⟨sameT_set h.1 k q v, fun i hi j hj => by
    rw [setT_cel (by rw [← h.1.1]; exact hk) (by rw [← h.1.2 k hk, hw]; exact hq)]
    by_cases e2 : i = k ∧ j = q
    · rw [if_pos e2, if_pos (by omega), e2.1, e2.2, he]
    · rw [if_neg e2, h.2 i hi j hj]
      by_cases e : i < k ∨ (i = k ∧ j < q)
      · rw [if_pos e, if_pos (by omega)]
      · rw [if_neg e, if_neg (by omega)]⟩

set_option maxRecDepth 100000 in
set_option maxHeartbeats 4000000 in
theorem wFnControlOther (a : Option Addr) (len cap : Nat) (z : List Int) (w : World) (h : IsRow .u8 w a len cap z) :
    Calls Try.prog 7 #[.slice a len cap] w fun e w' => e = .returned (.bool true) ∧ Below w.heap.size w w' := by
  have H := Lib.hid h; clear h
  by_cases hl : 1048576 < len
  · go_enter Try.func7, Try.ntmps7
    go_wp2_with fail
    go_ret
    exact ⟨rfl, Below.refl _ _⟩
  go_enter Try.func7, Try.ntmps7
  go_wp2_with fail
  refine (drawControlMany _ _ _ _ _ H.out).mono ?_
  rintro e w1 ⟨g, cp, t, us, b, rfl, ho, hd, hb1, hb2, bl1⟩
  have LD := Lib.hid (lensD hd.out)
  go_wp2_with fail
  with_reducible refine (iControlMany _ _ _ t b ho.out.ints LD.out).mono ?_
  rintro e w2 ⟨rfl, bl2⟩
  obtain ⟨m, hm⟩ : ∃ m, manyR t b = m := ⟨_, rfl⟩
  rw [hm]
  go_wp2_with fail
  with_reducible refine (sControlMany _ _ _ t b (ho.out.ints.below bl2) LD.out).mono ?_
  rintro e w3 ⟨rfl, bl3⟩
  rw [hm]
  have B3 := Lib.hid (bl2.trans (bl3.mono bl2.size))
  have HO3 := Lib.hid (ho.out.below B3.out)
  clear bl2 bl3 ho
  by_cases hs : small t b
  · have hm0 : 0 ≤ m := by rw [← hm]; exact many_big hs
    have hlt := hs.1.2.1
    have hl0 : 1 ≤ t.length := hs.1.1
    have hw0 : 1 ≤ wid t 0 := hs.1.2.2.1
    have hw4 : wid t 0 ≤ 4 := hs.1.2.2.2.1
    have hbb : 2 ≤ b := hs.2.2.1
    have hb20 : b ≤ 20 := hs.2.2.2
    have HTK := Lib.hid hs.1
    have HSM := Lib.hid hs
    have HM := Lib.hid hm
    clear hm hs
    go_wp2_with fail
    with_reducible refine (lCopyRows _ _ _ t HO3.out.ints (lensR HTK.out).1 (lensR HTK.out).2).mono ?_
    rintro e w4 ⟨vx, xs, rfl, hx, bl4⟩
    obtain ⟨gx, capx, rfl, hgx, _, _, _⟩ := hx.form
    have HX := Lib.hid hx
    have hxb : w1.heap.size ≤ w3.heap.size := B3.out.size
    have h4s := bl4.size
    have B4 := Lib.hid (B3.out.trans (bl4.mono B3.out.size))
    have hbz : b ≠ 0 := by omega
    have p0 : 0 < t.length := by omega
    -- the table t as it lies in memory, in every later world
    have HT : Hid (∀ X, Below w3.heap.size w3 X → IntSS X (· < w3.heap.size) (.slice (some ⟨g, 0, none⟩) t.length cp) t) := fun X hX => (HO3.out.ints.mono (fun _ _ h => h)).below hX
    have HB34 := Lib.hid bl4
    clear hx hgx bl4
    go_wp2_with fail
    go_loopw [8] (fun i wr => ∃ (k : Nat) (x : List (List Int)), k ≤ t.length ∧ i = .int .i64 k ∧ Hid (OwnU wr w3.heap.size (.slice (some ⟨gx, 0, none⟩) t.length capx) x xs) ∧ Hid (reflTo t x b k 0) ∧ Hid (Below w3.heap.size w3 wr)) (fun i _ => t.length - (intOf i).toNat)
    case atStart => exact ⟨0, t, Nat.zero_le _, rfl, HX, ⟨same_refl t, fun i hi j hj => by rw [if_neg (by omega)]⟩, HB34.out⟩
    case round =>
      obtain ⟨k, x, hk, rfl, hx, hrf, hbl⟩ := hrel
      by_cases hlt2 : k < t.length
      · have hwk : wid t k = wid t 0 := (HTK.out.2.2.2.2 k hlt2).1
        obtain ⟨b', o', tb2, to2, tci, hq0, _, hr1, _⟩ := (HT.out wr hbl.out).at (i := k) (j := 0) hlt2 (by omega)
        cases hq0
        rw [hwk, Nat.zero_add] at hr1
        have ki : (k : Int) < (t.length : Int) := by omega
        have HWK := Lib.hid hwk
        clear hwk
        go_wp2_with fail
        clear hr1
        go_loopw [9] (fun j wr => ∃ (q : Nat) (x : List (List Int)), q ≤ wid t 0 ∧ j = .int .i64 q ∧ Hid (OwnU wr w3.heap.size (.slice (some ⟨gx, 0, none⟩) t.length capx) x xs) ∧ Hid (reflTo t x b k q) ∧ Hid (Below w3.heap.size w3 wr)) (fun j _ => wid t 0 - (intOf j).toNat)
        case atStart => exact ⟨0, x, Nat.zero_le _, rfl, hx, hrf, hbl⟩
        case round =>
          clear hx hrf hbl
          obtain ⟨q, x, hq, rfl, hx, hrf, hbl⟩ := hrel
          by_cases hqlt : q < wid t 0
          · obtain ⟨b', o', tb2, to2, tci, hq0, _, hr1, hr2⟩ := (HT.out wr hbl.out).at (i := k) (j := q) hlt2 (by rw [HWK.out]; exact hqlt)
            cases hq0
            rw [HWK.out, Nat.zero_add] at hr1
            obtain ⟨c, hce⟩ : ∃ c, cel t k q = c := ⟨_, rfl⟩
            have hcb : 0 ≤ c ∧ c ≤ 99 := by rw [← hce]; exact (HTK.out.2.2.2.2 k hlt2).2 q hqlt
            obtain ⟨r, hre⟩ : ∃ r, c % b = r := ⟨_, rfl⟩
            have hrb : 0 ≤ r ∧ r < b := by rw [← hre]; exact ⟨Int.emod_nonneg _ (by omega), Int.emod_lt_of_pos _ (by omega)⟩
            have mm : c.tmod b = r := by rw [Int.tmod_eq_emod_of_nonneg hcb.1]; exact hre
            have hdn : dn b c = c - r := by rw [← hre]; rfl
            have hdb := dn_bd (c := c) hbb hcb.1
            have HCE := Lib.hid hce
            rw [hce] at hr2
            have qi : (q : Int) < (wid t 0 : Int) := by omega
            by_cases hr0 : r = 0
            · have cr : (r != 0) = false := by simp [hr0]
              have HRF : Hid (reflTo t x b k (q + 1)) := reflTo_skip hrf.out (by rw [HCE.out]; unfold reflC; rw [if_pos (by omega)])
              clear hce hre hdn hdb hr0
              go_wp2_with fail
              go_roundw
              case rel => exact ⟨q + 1, x, by omega, by go_num, hx, HRF, hbl⟩
              case measure => simp [intOf]; omega
            · have cr : (r != 0) = true := by simp [hr0]
              have hxi : k < x.length := by rw [← hrf.out.1.1]; exact hlt2
              have hwx : wid x k = wid t 0 := by rw [← hrf.out.1.2 k hlt2]; exact HWK.out
              obtain ⟨gi, ci, hu, hrow, hgi, _, _, _, _, _⟩ := hx.out.rowW hxi
              obtain ⟨hcel, hfrz⟩ := hx.out.at hxi hu (j := q) (by unfold wid at hwx hqlt; omega)
              change wr.cell? ⟨gi, q, none⟩ = some (.int .i64 (cel x k q)) at hcel
              rw [hwx] at hrow
              have HRF : Hid (reflTo t (setT x k q (c - r + b - r)) b k (q + 1)) := reflTo_set hrf.out hlt2 hqlt HWK.out (by rw [HCE.out]; unfold reflC; rw [if_neg (by omega)]; omega)
              have HU := Lib.hid hu
              have w1' : IntKind.i64.wrap (c - r) = c - r := by rw [IntKind.wrap_i64]; omega
              have w2' : IntKind.i64.wrap (c - r + b) = c - r + b := by rw [IntKind.wrap_i64]; omega
              have w3' : IntKind.i64.wrap (c - r + b - r) = c - r + b - r := by rw [IntKind.wrap_i64]; omega
              clear hce hre hdn hdb hr0 hu
              go_wp2_with fail
              refine tail_plain 35 (by kernel_rfl) (by kernel_rfl) ?_
              simp only [List.take_succ_cons, List.take_zero, List.drop_succ_cons, List.drop_zero]
              replace hx := Lib.hid (hx.out.drewN 1)
              replace hbl := Lib.hid (hbl.out.drew)
              change wr.drew.cell? _ = _ at hr1 hr2 hrow hcel
              change wr.drew.frozen? _ = _ at hfrz
              change Hid (OwnU wr.drew _ _ _ _) at hx
              generalize wr.drew = wd at *
              repeat still_step
              refine wpStill_nil ?_
              have HX2 := Lib.hid (OwnU.setT hx.out hxi HU.out q (c - r + b - r))
              have HB2 := Lib.hid (hbl.out.setCell (p := ⟨gi, q, none⟩) (by simp; omega) (.int .i64 (c - r + b - r)))
              go_wp2_with fail
              go_roundw
              case rel => exact ⟨q + 1, _, by omega, by go_num, HX2, HRF, HB2⟩
              case measure => simp [intOf]; omega
          · have HRF : Hid (reflTo t x b (k + 1) 0) := reflTo_next (by have := hrf.out; rwa [show q = wid t 0 by omega] at this)
            obtain ⟨b', o', tb2, to2, tci, hq0, _, hr1, _⟩ := (HT.out wr hbl.out).at (i := k) (j := 0) hlt2 (by rw [HWK.out]; omega)
            cases hq0
            rw [HWK.out, Nat.zero_add] at hr1
            go_wp2_with fail
            go_roundw
            case rel => exact ⟨k + 1, x, by omega, by go_num, hx, HRF, hbl⟩
            case measure => simp [intOf]; omega
      · have hke : k = t.length := by omega
        subst hke
        have HSX : Hid (same t x) := hrf.out.1
        have HRL : Hid (∀ i, i < t.length → ∀ j, j < wid t 0 → cel x i j = reflC b (cel t i j)) := fun i hi j hj => by rw [hrf.out.2 i hi j hj, if_pos (by omega)]
        have LX : Hid (lensT x) := lens_same HTK.out HSX.out
        clear hrf
        go_wp2_with fail
        with_reducible refine (iTableValid _ _ _ x hx.out.ints LX.out).mono ?_
        rintro e w7 ⟨rfl, rfl⟩
        by_cases hok : tblOk x
        · have D : Hid (decide (tblOk x) = true) := by unfold Hid; simpa using hok
          have HE : Hid (manyR x b = m) := by
            rw [← HM.out]
            exact many_eq HSM.out HSX.out hok (cnt_other HTK.out hok hbb hb20 HSX.out HRL.out)
          rw [D.out]
          clear hok
          go_wp2_with fail
          with_reducible refine (iControlMany _ _ _ x b hx.out.ints LX.out).mono ?_
          rintro e w8 ⟨rfl, bl8⟩
          rw [HE.out]
          go_wp2_with fail
          go_ret
          exact ⟨rfl, bl1.trans ((B3.out.trans ((hbl.out.trans (bl8.mono hbl.out.size)).mono B3.out.size)).mono bl1.size)⟩
        · have D : Hid (decide (tblOk x) = false) := by unfold Hid; simpa using hok
          rw [D.out]
          clear hok
          go_wp2_with fail
          go_ret
          exact ⟨rfl, bl1.trans ((B3.out.trans (hbl.out.mono B3.out.size)).mono bl1.size)⟩
  · have hm0 : m = -1 := by rw [← hm]; exact many_small hs
    subst hm0
    clear hm hs
    go_wp2_with fail
    go_ret
    exact ⟨rfl, bl1.trans (B3.out.mono bl1.size)⟩

end Go.Proofs.Ytnkgbgeffpeolaa
