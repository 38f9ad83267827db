/- Contract: the reference's list of all roundings. -/
import Derived.Test.YtigdgcpjkeaooaaOwnLs
import Derived.Test.YtigdgcpjkeaooaaSpecN
import Derived.Test.YtigdgcpjkeaooaaFill2
import Derived.Test.YtigdgcpjkeaooaaRndIt
namespace Go.Proofs.Ytigdgcpjkeaooaa
open Go.RowKit

/-- what the reference's list of all roundings leaves -/
def AllP (W : World) (bX : Nat) (vx : Value) (xs : List Value) (t : List (List Int)) (b : Int) (n p : Nat) (X : List (List Int)) (e : Ending) (W' : World) : Prop :=
  ∃ v us vs X', e = .returned v ∧ OwnLs W' W.heap.size v (fillL t b n p X) us vs ∧ OwnU W' bX vx X' xs ∧ same t X' ∧ agr (wid t 0) p X X' ∧ Keeps (fun k => ¬ blksU vx xs k) W W'

theorem okTo_rect {t X : List (List Int)} {b : Int} (ht : tblOk t) (hb : 2 ≤ b) (hb2 : b ≤ 20) (hs : same t X) (h : okTo t b (t.length * wid t 0) X) : rectS X := by
  refine fits_rect hb hb2 ht hs (fun i hi j hj => ?_)
  obtain ⟨q, hq, rfl, rfl⟩ := at_cell hi hj
  exact h q hq

set_option maxRecDepth 100000 in
set_option maxHeartbeats 2000000 in
theorem all_end (t : List (List Int)) (b : Int) (P : Nat → Prop) (vt vx : Value) (xs : List Value) (bX : Nat) (ht : tblOk t) (hb : 2 ≤ b) (hb2 : b ≤ 20) (p : Nat) (hp : 0 + p = t.length * wid t 0) (X : List (List Int)) (W : World)
    (hT : IntSS W P vt t) (hX : OwnU W bX vx X xs) (hs : same t X) (hok : okTo t b p X) :
    Calls Try.prog 38 #[vt, vx, .int .i64 b, .int .i64 (p : Int)] W (AllP W bX vx xs t b 0 p X) := by
  have HT := Lib.hid hT
  have HX := Lib.hid hX
  have HS := Lib.hid hs
  have HTO := Lib.hid ht
  have RT := Lib.hid ht.rectS
  have HPE : Hid (p = t.length * wid t 0) := by unfold Hid; omega
  have RX : Hid (rectS X) := okTo_rect ht hb hb2 hs (by rw [← HPE.out]; exact hok)
  have LR : Hid (X.length ≤ 1000 ∧ ∀ j, j < X.length → 1 ≤ (X[j]?.getD []).length ∧ (X[j]?.getD []).length ≤ 1000) := by
    refine ⟨by have := RX.out.2.1; omega, fun j hj => ?_⟩
    have h1 := (RX.out.2.2.2.2 j hj).1
    have h2 := RX.out.2.2.1
    have h3 := RX.out.2.2.2.1
    unfold wid at h1 h2 h3
    omega
  obtain ⟨a, cap, rfl, _, _⟩ := hT
  obtain ⟨gx, capx, rfl, _, _, _, _⟩ := hX.form
  obtain ⟨b0, o0, b2, o2, ci, rfl, _, hc1, _⟩ := HT.out.at (i := 0) (j := 0) (by have := ht.1; omega) (by have := ht.2.2.1; omega)
  rw [Nat.add_zero] at hc1
  have hl1 := ht.1
  have hl4 := ht.2.1
  have hw1 := ht.2.2.1
  have hw4 := ht.2.2.2.1
  have hm : (t.length : Int) * (wid t 0 : Int) = (p : Int) := by rw [HPE.out]; push_cast; rfl
  have hm2 : (t.length : Int) * (wid t 0 : Int) ≤ 16 := by
    have := Nat.mul_le_mul hl4 hw4
    omega
  have hm3 : (0 : Int) ≤ (t.length : Int) * (wid t 0 : Int) := by omega
  have ce : ((p : Int) == (t.length : Int) * (wid t 0 : Int)) = true := by rw [hm]; simp
  clear hX hs ht hok hp hm
  go_enter Try.func38, Try.ntmps38
  go_wp2_with fail
  with_reducible refine (sNear _ P _ _ _ t X b HT.out HX.out.intsB RT.out RX.out HS.out hb hb2).mono ?_
  rintro e w1 ⟨rfl, b1⟩
  by_cases hf : sumsFit t X b
  · have D : Hid (decide (sumsFit t X b) = true) := by unfold Hid; simpa using hf
    have HR : Hid (fillL t b 0 p X = [X]) := by unfold Hid fillL; rw [if_pos hf]
    rw [D.out]
    clear hf D
    go_wp2_with fail
    with_reducible refine (sCopy _ _ _ X (HX.out.intsB.below b1) LR.out.1 LR.out.2).mono ?_
    rintro e w2 ⟨v, us, rfl, ho, b2⟩
    have HO := Lib.hid ho
    obtain ⟨g, cp, rfl, _, _, _, _⟩ := ho.form
    clear ho
    go_wp2_with fail
    go_ret
    refine ⟨_, [.slice (some ⟨g, 0, none⟩) X.length cp], [us], X, rfl, ?_, (((HX.out.below b1).below b2).alloc _), HS.out, agr_refl _ _ _, .of_below ((b1.trans (b2.mono b1.size)).alloc (by have := b1.size; have := b2.size; omega) _)⟩
    rw [HR.out]
    exact OwnLs.one (HO.out.mono b1.size) (by have := b1.size; have := b2.size; omega)
  · have D : Hid (decide (sumsFit t X b) = false) := by unfold Hid; simpa using hf
    have HR : Hid (fillL t b 0 p X = []) := by unfold Hid fillL; rw [if_neg hf]
    rw [D.out]
    clear hf D
    go_wp2_with fail
    go_ret
    refine ⟨_, [], [], X, rfl, ?_, (HX.out.below b1).alloc _, HS.out, agr_refl _ _ _, .of_below (b1.alloc b1.size _)⟩
    rw [HR.out]
    exact OwnLs.empty w1 W.heap.size b1.size

theorem all_one {w : World} {base : Nat} {v : Value} {L : List (List (List Int))} {us : List Value} {vs : List (List Value)} (h : OwnLs w base v L us vs) : ∀ u ∈ us, u.oneCell' = true := by
  intro u hu
  obtain ⟨i, hi, rfl⟩ := List.getElem_of_mem hu
  have hl := h.us
  obtain ⟨g, cap, e, _⟩ := (h.tabs i (by omega)).form
  rw [List.getElem?_eq_getElem hi] at e
  simp only [Option.getD_some] at e
  rw [e]; rfl
theorem fill_len (t : List (List Int)) (b : Int) (n p : Nat) (x : List (List Int)) (hn : n ≤ 15) : (fillL t b n p x).length ≤ 32768 := by
  have h1 := fill_le t b n p x
  have h2 := oddN_le t b n p
  have h3 := Nat.pow_le_pow_right (show 0 < 2 by omega) (show oddN t b n p ≤ 15 by omega)
  omega

set_option maxRecDepth 100000 in
set_option maxHeartbeats 4000000 in
theorem sAll (t : List (List Int)) (b : Int) (P : Nat → Prop) (vt vx : Value) (xs : List Value) (bX : Nat) (ht : tblOk t) (hb : 2 ≤ b) (hb2 : b ≤ 20) (hPX : ∀ k, P k → ¬ blksU vx xs k) :
    ∀ (n p : Nat), n + p = t.length * wid t 0 → ∀ (pi : Int), pi = (p : Int) → ∀ (X : List (List Int)) (W : World), IntSS W P vt t → OwnU W bX vx X xs → same t X → okTo t b p X →
    Calls Try.prog 38 #[vt, vx, .int .i64 b, .int .i64 pi] W (AllP W bX vx xs t b n p X) := by
  intro n
  induction n with
  | zero =>
    rintro p hp pi rfl X W hT hX hs hok
    exact all_end t b P vt vx xs bX ht hb hb2 p hp X W hT hX hs hok
  | succ n ih =>
    rintro p hp pi rfl X W hT hX hs hok
    obtain ⟨i0, hi0, hz0, hz1, hz2⟩ := info_parts Try.info_tab
    have hpl : p < t.length * wid t 0 := by omega
    obtain ⟨hi, hj⟩ := div_bd ht.rect.1 hpl
    have HIH := Lib.hid ih
    have HPX := Lib.hid hPX
    have HP := Lib.hid hp
    obtain ⟨i, hie⟩ : ∃ i, p / wid t 0 = i := ⟨_, rfl⟩
    obtain ⟨j, hje⟩ : ∃ j, p % wid t 0 = j := ⟨_, rfl⟩
    obtain ⟨c, hce⟩ : ∃ c, cel t i j = c := ⟨_, rfl⟩
    obtain ⟨r, hre⟩ : ∃ r, c % b = r := ⟨_, rfl⟩
    obtain ⟨dv, hde⟩ : ∃ d, dn b c = d := ⟨_, rfl⟩
    have hc0 : 0 ≤ c ∧ c ≤ 99 := by rw [← hce, ← hie, ← hje]; exact (ht.2.2.2.2 _ hi).2 _ hj
    have hrb : 0 ≤ r ∧ r < b := by rw [← hre]; exact ⟨Int.emod_nonneg _ (by omega), Int.emod_lt_of_pos _ (by omega)⟩
    have hdr : c - r = dv := by rw [← hde, ← hre]; rfl
    have hdb : 0 ≤ dv ∧ dv ≤ c ∧ c < dv + b := by rw [← hde]; exact dn_bd hb hc0.1
    have hbz : b ≠ 0 := by omega
    have mm : c.tmod b = r := by rw [Int.tmod_eq_emod_of_nonneg hc0.1]; exact hre
    have HFL : Hid (fillL t b (n + 1) p X = fillL t b n (p + 1) (setT X i j dv) ++ if c = dv then [] else fillL t b n (p + 1) (setT X i j (dv + b))) := by
      unfold Hid; rw [fillL, hie, hje, hce, hde]
    have HK1 : Hid (∀ Y, same t Y → agr (wid t 0) p X Y → ∀ v, cOk b c v → okTo t b (p + 1) (setT Y i j v) ∧ agr (wid t 0) p X (setT Y i j v) ∧ fillL t b n (p + 1) (setT X i j v) = fillL t b n (p + 1) (setT Y i j v)) := by
      intro Y hY2 ha v hv
      rw [← hce, ← hie, ← hje] at hv
      rw [← hie, ← hje]
      refine ⟨okTo_set ht.rect hY2 hpl (okTo_agr hok ha) hv, ha.trans (agr_set_self ht.rect hY2 hpl v), ?_⟩
      exact fill_agr b ht.rect n (p + 1) _ _ (by omega) (sameT_set hs _ _ _) (sameT_set hY2 _ _ _) (agr_set ht.rect hs hY2 hpl ha v)
    have HK2 : Hid (∀ Y v, same t Y → agr (wid t 0) (p + 1) (setT X i j v) Y → cel Y i j = v ∧ agr (wid t 0) p X Y) := by
      intro Y v hY2 ha
      rw [← hie, ← hje] at ha ⊢
      refine ⟨?_, (agr_set_self ht.rect hs hpl v).trans (ha.less (by omega))⟩
      rw [← ha p (by omega), set_at ht.rect hs hpl]
    have HC1 : Hid (cOk b c dv) := .inl hde.symm
    have HC2 : Hid (¬ c = dv → cOk b c (dv + b)) := fun h => .inr ⟨by rw [hde], by rw [hde]; exact h⟩
    have hcell : ∀ Y, same t Y → i < Y.length ∧ j < wid Y i := fun Y hY2 => by have := same_cell ht.rect hY2 hpl; rw [hie, hje] at this; exact this
    have HCE := Lib.hid hcell
    have hwt : wid t i = wid t 0 := by rw [← hie]; exact (ht.2.2.2.2 _ hi).1
    have tq : (p : Int).tdiv (wid t 0 : Int) = (i : Int) := by rw [← hie]; exact (Int.ofNat_tdiv p (wid t 0)).symm
    have tr : (p : Int).tmod (wid t 0 : Int) = (j : Int) := by rw [← hje]; exact (Int.ofNat_tmod p (wid t 0)).symm
    have tq2 : (p : Int) / (wid t 0 : Int) = (i : Int) := by rw [← hie]; rfl
    have tr2 : (p : Int) % (wid t 0 : Int) = (j : Int) := by rw [← hje]; rfl
    have hm2 : (t.length : Int) * (wid t 0 : Int) ≤ 16 := by
      obtain ⟨a1, a2, a3, a4, _⟩ := ht
      have := Nat.mul_le_mul a2 a4
      omega
    have hm3 : (0 : Int) ≤ (t.length : Int) * (wid t 0 : Int) := by omega
    have ce : ((p : Int) == (t.length : Int) * (wid t 0 : Int)) = false := by
      have : (p : Int) < ((t.length * wid t 0 : Nat) : Int) := by omega
      rw [Int.natCast_mul] at this
      simp; omega
    have hp16 : p ≤ 16 := by omega
    have hn16 : n ≤ 15 := by omega
    have hw1 : 1 ≤ wid t 0 := ht.2.2.1
    have hw4 : wid t 0 ≤ 4 := ht.2.2.2.1
    have hh4 : t.length ≤ 4 := ht.2.1
    have hh1 : 0 < t.length := ht.1
    rw [hie] at hi
    rw [hje] at hj
    have hj0 := hj
    rw [← hwt] at hj
    have hii : (i : Int) < (t.length : Int) := by omega
    have hji : (j : Int) < (wid t 0 : Int) := by omega
    have HT := Lib.hid hT
    obtain ⟨at_, capt, rfl, _, _⟩ := hT
    obtain ⟨tb, tof, tb2, tof2, tci, rfl, _, ct1, ct2⟩ := HT.out.at hi hj
    obtain ⟨tb', tof', tb3, tof3, tci3, hq0, _, ct0, _⟩ := HT.out.at (i := 0) (j := 0) (by omega) (by omega)
    cases hq0
    rw [Nat.add_zero] at ct0
    obtain ⟨gx, capx, hvx, _, _, _, _⟩ := hX.form
    rw [← hs.1] at hvx
    subst hvx
    obtain ⟨hxi, hxj⟩ := hcell X hs
    obtain ⟨gi, ci, hu, cx1, _, _, _, _, _, _⟩ := hX.row hxi
    obtain ⟨cx2, fx2⟩ := hX.at hxi hu (j := j) hxj
    have HU := Lib.hid hu
    rw [hce] at ct2
    rw [hwt] at ct1
    have HCT := Lib.hid hce
    have HWT := Lib.hid hwt
    have HBX : Hid (∀ k, blksU (.slice (some ⟨gx, 0, none⟩) t.length capx) xs k → k < W.heap.size) := fun k hk => (hX.blk hk).2
    have HX := Lib.hid hX
    have HS := Lib.hid hs
    have HOK := Lib.hid hok
    have HTO := Lib.hid ht
    change W.cell? ⟨gx, i, none⟩ = some (.slice (some ⟨gi, 0, none⟩) (wid X i) ci) at cx1
    have hji2 : (j : Int) < (wid X i : Int) := by omega
    have cwr : IntKind.i64.wrap (c - r) = dv := by rw [IntKind.wrap_i64, hdr]; omega
    have HTD : Hid (c = dv ↔ r = 0) := by unfold Hid; omega
    have hdv : 0 ≤ dv ∧ dv ≤ 99 := by omega
    clear hX hs ih hok hp hcell hu hie hje hce hde hre hPX hwt ht hdr hpl
    go_enter Try.func38, Try.ntmps38
    go_wp2_with fail
    refine tail_plain 23 (by kernel_rfl) (by kernel_rfl) ?_
    simp only [List.take_succ_cons, List.take_zero, List.drop_succ_cons, List.drop_zero]
    replace HT := Lib.hid HT.out.drew
    replace HX := Lib.hid (HX.out.drewN 1)
    have HKW := Lib.hid ((Keeps.refl (fun k => ¬ blksU (.slice (some ⟨gx, 0, none⟩) t.length capx) xs k) W).drew)
    have hsz : W.drew.heap.size = W.heap.size := rfl
    change W.drew.cell? _ = _ at ct0 ct1 ct2 cx1 cx2
    change W.drew.frozen? _ = _ at fx2
    change Hid (OwnU W.drew _ _ _ _) at HX
    generalize W.drew = Wd at *
    repeat still_step
    refine wpStill_nil ?_
    have hgi : blksU (.slice (some ⟨gx, 0, none⟩) t.length capx) xs gi := .inr ⟨i, by rw [HX.out.len]; exact hxi, by rw [HU.out]; rfl⟩
    have HX1 := Lib.hid (OwnU.setT HX.out hxi HU.out j dv)
    have HK3 : Hid (Keeps (fun k => ¬ blksU (.slice (some ⟨gx, 0, none⟩) t.length capx) xs k) W (Wd.setCell ⟨gi, j, none⟩ (.int .i64 dv))) := HKW.out.trans (Keeps.setCell _ _ _ _ (by simpa using hgi))
    have HT1 := Lib.hid (HT.out.keeps (Keeps.setCell (Q := fun k => ¬ blksU (.slice (some ⟨gx, 0, none⟩) t.length capx) xs k) Wd gi j (.int .i64 dv) (by simpa using hgi)) (fun k _ hk => HPX.out k hk))
    go_wp2_with fail
    have HK := Lib.hid (HK1.out X HS.out (agr_refl _ _ _) dv HC1.out)
    have hsz1 : (Wd.setCell ⟨gi, j, none⟩ (.int .i64 dv)).heap.size = W.heap.size := by simp; exact hsz
    generalize Wd.setCell ⟨gi, j, none⟩ (.int .i64 dv) = Ws at *
    with_reducible refine (HIH.out (p + 1) (by have := HP.out; omega) ((p : Int) + 1) (by push_cast; rfl) (setT X i j dv) Ws HT1.out HX1.out (sameT_set HS.out _ _ _) HK.out.1).mono ?_
    clear ct0 ct1 ct2 cx1 cx2 fx2 hxi hxj hji2
    rintro e1 W1 ⟨v1, us1, vs1, X1, rfl, hL1, hX1, hs1, ag1, hk1⟩
    obtain ⟨hv1, ag2⟩ := HK2.out X1 dv hs1 ag1
    have HKA := Lib.hid (HK3.out.trans hk1)
    have HT2 := Lib.hid (HT1.out.keeps hk1 (fun k _ hk => HPX.out k hk))
    obtain ⟨tb4, tof4, tb5, tof5, tci5, hq, _, ct1, ct2⟩ := HT2.out.at hi hj
    cases hq
    rw [HCT.out] at ct2
    rw [HWT.out] at ct1
    obtain ⟨hxi, hxj⟩ := HCE.out X1 hs1
    obtain ⟨gi1, ci1, hu1, cx1, _, _, _, _, _, _⟩ := hX1.row hxi
    obtain ⟨cx2, fx2⟩ := hX1.at hxi hu1 (j := j) hxj
    change W1.cell? ⟨gx, i, none⟩ = some (.slice (some ⟨gi1, 0, none⟩) (wid X1 i) ci1) at cx1
    change W1.cell? ⟨gi1, j, none⟩ = some (.int .i64 (cel X1 i j)) at cx2
    rw [hv1] at cx2
    have hji2 : (j : Int) < (wid X1 i : Int) := by omega
    have HU1 := Lib.hid hu1
    have HAG := Lib.hid ag2
    have HL1 := Lib.hid hL1
    have HX2 := Lib.hid hX1
    have HS1 := Lib.hid hs1
    have hsk1 := hk1.size
    obtain ⟨g1, cp1, rfl, hg1b0, hg1l, _, _⟩ := hL1.form
    have HLG := Lib.hid hg1l
    have HG1 : Hid (W.heap.size ≤ g1) := by unfold Hid; omega
    clear hg1l hg1b0
    clear hL1 hX1 hs1 ag1 ag2 hk1 hu1 hv1 HK
    by_cases hcd : c = dv
    · have hr0 := HTD.out.1 hcd
      subst hr0
      have HL : Hid (fillL t b (n + 1) p X = fillL t b n (p + 1) (setT X i j dv)) := by unfold Hid; rw [HFL.out, if_pos hcd, List.append_nil]
      clear hcd
      go_wp2_with fail
      go_ret
      exact ⟨_, us1, vs1, X1, rfl, by rw [HL.out]; exact HL1.out.mono (by omega), HX2.out, HS1.out, HAG.out, HKA.out⟩
    · have hr0 : 0 < r := by have := HTD.out; omega
      have HL : Hid (fillL t b (n + 1) p X = fillL t b n (p + 1) (setT X i j dv) ++ fillL t b n (p + 1) (setT X i j (dv + b))) := by unfold Hid; rw [HFL.out, if_neg hcd]
      have HK := Lib.hid (HK1.out X1 HS1.out HAG.out (dv + b) (HC2.out hcd))
      clear hcd
      go_wp2_with fail
      refine tail_plain 15 (by kernel_rfl) (by kernel_rfl) ?_
      simp only [List.take_succ_cons, List.take_zero, List.drop_succ_cons, List.drop_zero]
      replace HT2 := Lib.hid HT2.out.drew
      replace HX2 := Lib.hid (HX2.out.drewN 1)
      replace HKA := Lib.hid HKA.out.drew
      replace HL1 := Lib.hid (HL1.out.keeps (Q := fun _ => True) ((Keeps.refl _ _).drew) (fun _ _ _ => trivial))
      have hsz2 : W1.drew.heap.size = W1.heap.size := rfl
      change W1.drew.cell? _ = _ at ct1 ct2 cx1 cx2
      change W1.drew.frozen? _ = _ at fx2
      change Hid (OwnU W1.drew _ _ _ _) at HX2
      rw [← hsz2] at hsk1
      generalize W1.drew = We at *
      repeat still_step
      refine wpStill_nil ?_
      have hgi1 : blksU (.slice (some ⟨gx, 0, none⟩) t.length capx) xs gi1 := .inr ⟨i, by rw [HX2.out.len]; exact hxi, by rw [HU1.out]; rfl⟩
      have hst : Keeps (fun k => ¬ blksU (.slice (some ⟨gx, 0, none⟩) t.length capx) xs k) We (We.setCell ⟨gi1, j, none⟩ (.int .i64 (dv + b))) := Keeps.setCell _ _ _ _ (by simpa using hgi1)
      have HX3 := Lib.hid (OwnU.setT HX2.out hxi HU1.out j (dv + b))
      have HKB := Lib.hid (HKA.out.trans hst)
      have HT3 := Lib.hid (HT2.out.keeps hst (fun k _ hk => HPX.out k hk))
      have hbx : ∀ k, blksU (.slice (some ⟨gx, 0, none⟩) t.length capx) xs k → k < W.heap.size := HBX.out
      have HL2 := Lib.hid (HL1.out.keeps hst (fun k h1 _ hq => by have := hbx k hq; omega))
      have hsz3 : (We.setCell ⟨gi1, j, none⟩ (.int .i64 (dv + b))).heap.size = We.heap.size := by simp
      go_wp2_with fail
      clear hst
      generalize We.setCell ⟨gi1, j, none⟩ (.int .i64 (dv + b)) = Wf at *
      with_reducible refine (HIH.out (p + 1) (by have := HP.out; omega) ((p : Int) + 1) (by push_cast; rfl) (setT X1 i j (dv + b)) Wf HT3.out HX3.out (sameT_set HS1.out _ _ _) HK.out.1).mono ?_
      clear ct1 ct2 cx1 cx2 fx2 hxi hxj hji2
      rintro e2 W2 ⟨v2, us2, vs2, X2, rfl, hL2, hX4, hs2, ag2, hk2⟩
      have HL3 := Lib.hid (HL2.out.keeps hk2 (fun k h1 _ hq => by have := hbx k hq; omega))
      have HL4 := Lib.hid hL2
      have HX5 := Lib.hid hX4
      have HS2 := Lib.hid hs2
      have HA3 := Lib.hid (HK.out.2.1.trans (ag2.less (Nat.le_succ p)))
      have HKC := Lib.hid (HKB.out.trans hk2)
      have hsk2 := hk2.size
      have HONE : Hid (∀ u ∈ us2, u.oneCell' = true) := all_one hL2
      have HSRC : Hid (∀ k, (Value.slice (some ⟨g1, 0, none⟩) (fillL t b n (p + 1) (setT X i j dv)).length cp1).ownBlock = some k → k < W1.heap.size) := fun k e => by
        have := HLG.out; cases e; exact this
      have lb1 := fill_len t b n (p + 1) (setT X i j dv) hn16
      have lb2 := fill_len t b n (p + 1) (setT X1 i j (dv + b)) hn16
      obtain ⟨g2, cp2, rfl, _, _, _, _⟩ := hL2.form
      have HL5 : Hid (fillL t b (n + 1) p X = fillL t b n (p + 1) (setT X i j dv) ++ fillL t b n (p + 1) (setT X1 i j (dv + b))) := by unfold Hid; rw [HL.out, HK.out.2.2]
      clear hL2 hX4 hs2 ag2 hk2 HL HK
      generalize fillL t b n (p + 1) (setT X i j dv) = LA at *
      generalize fillL t b n (p + 1) (setT X1 i j (dv + b)) = LB at *
      have q1 := (HL3.out.mono (base' := W.heap.size) (by omega)).outer
      have q2 : ∀ (j : Nat) (u : Value), us2[j]? = some u → W2.cell? ((⟨g2, 0, none⟩ : Addr).add j) = some u := HL4.out.outer.cells rfl
      have q3 : us2.length = LB.length * 1 := by rw [HL4.out.us]; omega
      have q4 : W.heap.size ≤ W2.heap.size := by omega
      have Q1 := Lib.hid q1
      have Q2 := Lib.hid q2
      clear q1 q2
      go_wp2_with (at_builtin; refine wpList_append_own_at _ rfl _ _ 61 rfl W.heap.size 23 i0 (.slice none 0 0) 1 24 Try.underlying61 hi0 hz0 hz1 hz2 rfl (by decide) _ _ _ rfl Q1.out ⟨g2, 0, none⟩ LB.length cp2 us2 rfl q3 Q2.out HONE.out ?c3 ?c4 q4 ?_)
      case c3 => unfold maxLen; omega
      case c4 => omega
      intro v3 w3 hown hgrow hnil hat
      have hj1 := OwnLs.join (HL3.out.mono (base' := W.heap.size) (by omega)) HL4.out (by omega) (fun k e => by have := HSRC.out k e; omega) hown hgrow (by simpa using hnil) hat
      have HJN := Lib.hid hj1
      obtain ⟨g3, cp3, hv3, _, _, _, _⟩ := hj1.form
      rw [List.length_append] at hv3
      have hg1b : ∀ k, blksU (.slice (some ⟨gx, 0, none⟩) t.length capx) xs k → k ≠ g1 := fun k hk e => by have := hbx k hk; have := HG1.out; omega
      have HX6 : Hid (OwnU w3 bX (.slice (some ⟨gx, 0, none⟩) t.length capx) X2 xs) := HX5.out.keptB hgrow (fun k e hk => by cases e; exact hg1b _ hk rfl)
      have HKD : Hid (Keeps (fun k => ¬ blksU (.slice (some ⟨gx, 0, none⟩) t.length capx) xs k) W w3) := by
        have a := HKC.out
        refine ⟨hgrow.os.trans a.os, hgrow.tape.trans a.tape, hgrow.output.trans a.output, Nat.le_trans a.size hgrow.size, fun k hk hq => ?_⟩
        have hne : some k ≠ (Value.slice (some ⟨g1, 0, none⟩) LA.length cp1).ownBlock := by
          intro e
          have e2 : k = g1 := by simpa [Value.ownBlock] using e
          have := HG1.out
          omega
        exact (hgrow.block k (by have := a.size; omega) hne).trans (a.block k hk hq)
      clear hown hgrow hnil hat hj1
      subst hv3
      go_wp2_with fail
      go_ret
      exact ⟨_, us1 ++ us2, vs1 ++ vs2, X2, rfl, by rw [HL5.out]; exact HJN.out, HX6.out, HS2.out, HA3.out, HKD.out⟩

end Go.Proofs.Ytigdgcpjkeaooaa
