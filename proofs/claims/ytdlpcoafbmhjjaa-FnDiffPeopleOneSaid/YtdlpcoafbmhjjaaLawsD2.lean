/- The walk of the law: one person is told by a difference. -/
import Derived.Test.YtdlpcoafbmhjjaaPplA
import Derived.Test.YtdlpcoafbmhjjaaTabO
import Derived.Test.YtdlpcoafbmhjjaaSame
namespace Go.Proofs.Ytdlpcoafbmhjjaa
open Go.RowKit

theorem ps_split {ps : List Pers} {n : Nat} (hn : n < ps.length) : ps = ps.take n ++ (ps[n]?.getD p0 :: ps.drop (n + 1)) := by
  rw [List.getElem?_eq_getElem hn]
  simp only [Option.getD_some]
  rw [← List.drop_eq_getElem_cons hn, List.take_append_drop]
theorem cnt_app (ps qs : List Pers) (i j : Nat) : cnt (ps ++ qs) i j = cnt ps i j + cnt qs i j := by
  unfold cnt; rw [List.countP_append, Int.natCast_add]
theorem cnt_cons (p : Pers) (qs : List Pers) (i j : Nat) : cnt (p :: qs) i j = cnt qs i j + if p.1 = (i : Int) ∧ p.2.1 = (j : Int) then 1 else 0 := by
  unfold cnt
  rw [List.countP_cons, Int.natCast_add]
  congr 1
  by_cases h1 : p.1 = (i : Int) <;> by_cases h2 : p.2.1 = (j : Int) <;> simp [h1, h2]
theorem cnt_erase {ps : List Pers} {n : Nat} (hn : n < ps.length) (i j : Nat) : cnt ps i j - cnt (ps.eraseIdx n) i j = if (ps[n]?.getD p0).1 = (i : Int) ∧ (ps[n]?.getD p0).2.1 = (j : Int) then 1 else 0 := by
  have e := ps_split hn
  have h1 : cnt ps i j = cnt (ps.take n ++ (ps[n]?.getD p0 :: ps.drop (n + 1))) i j := by rw [← e]
  rw [h1, erase_eq, cnt_app, cnt_app, cnt_cons]
  omega
theorem pplOk_erase {ps : List Pers} {n : Nat} (h : pplOk ps) (hn : n < ps.length) : pplOk (ps.eraseIdx n) := by
  have hl : (ps.eraseIdx n).length = ps.length - 1 := by rw [List.length_eraseIdx, if_pos hn]
  refine ⟨fun i hi => ?_, by have := h.2; omega⟩
  rw [List.getElem?_eraseIdx]
  split
  · exact h.1 i (by omega)
  · exact h.1 (i + 1) (by omega)
theorem cN_erase_le (ps : List Pers) (n : Nat) (q : Pers) : cN (ps.eraseIdx n) q ≤ cN ps q := by
  unfold cN
  have := (List.eraseIdx_sublist ps n).count_le q
  omega
theorem risk_one {ps : List Pers} {n : Nat} (hok : pplOk ps) (hn : n < ps.length) : diffR (cntT ps) (cntT (ps.eraseIdx n)) 2 = 1 := by
  have hoe := pplOk_erase hok hn
  have hp := hok.1 n hn
  obtain ⟨p, hpe⟩ : ∃ p, ps[n]?.getD p0 = p := ⟨_, rfl⟩
  have hce := cnt_erase hn
  rw [hpe] at hp
  simp only [hpe] at hce
  obtain ⟨⟨a1, a2⟩, ⟨j1, j2⟩, _⟩ := hp
  obtain ⟨an, ha⟩ : ∃ an : Nat, p.1 = (an : Int) := ⟨p.1.toNat, by omega⟩
  obtain ⟨jn, hj⟩ : ∃ jn : Nat, p.2.1 = (jn : Int) := ⟨p.2.1.toNat, by omega⟩
  have l1 : (cntT ps).length = 4 := mkT_len _ _ _
  have w1 : wid (cntT ps) 0 = 4 := mkT_wid (by omega)
  have ld : (subT (cntT ps) (cntT (ps.eraseIdx n))).length = 4 := by rw [subT_len, l1]
  have hw : ∀ i, i < 4 → wid (subT (cntT ps) (cntT (ps.eraseIdx n))) i = 4 := fun i hi => by rw [subT, mkT_wid (by omega), w1]
  have hc : ∀ i j, i < 4 → j < 4 → cel (subT (cntT ps) (cntT (ps.eraseIdx n))) i j = if i = an ∧ j = jn then 1 else 0 := fun i j hi hj' => by
    rw [subT, mkT_cel (by omega) (by omega), cntT, cntT, mkT_cel hi hj', mkT_cel hi hj', hce i j, ha, hj]
    by_cases e : i = an ∧ j = jn
    · rw [if_pos e, if_pos ⟨by omega, by omega⟩]
    · rw [if_neg e, if_neg (fun h => e ⟨by omega, by omega⟩)]
  have hd : tblOk (subT (cntT ps) (cntT (ps.eraseIdx n))) := by
    refine ⟨by omega, by omega, by rw [hw 0 (by omega)]; omega, by rw [hw 0 (by omega)]; omega, fun i hi => ⟨by rw [hw i (by omega), hw 0 (by omega)], fun j hj' => ?_⟩⟩
    rw [hw 0 (by omega)] at hj'
    rw [hc i j (by omega) hj']
    split <;> omega
  have hs : same (cntT ps) (cntT (ps.eraseIdx n)) := ⟨by rw [l1, cntT, mkT_len], fun i hi => by rw [l1] at hi; rw [cntT, cntT, mkT_wid hi, mkT_wid hi]⟩
  unfold diffR
  rw [if_pos ⟨cntT_ok hok.2, cntT_ok hoe.2, hs, hd⟩]
  unfold riskN
  rw [ld, S_congr (g := fun i => if i = an then 1 else 0) (fun i hi => ?_), S_one (by omega)]
  rw [hw i hi]
  by_cases e : i = an
  · rw [if_pos e, S_congr (g := fun j => if j = jn then 1 else 0) (fun j hj' => ?_), S_one (by omega)]
    rw [hc i j hi hj']
    by_cases e2 : j = jn
    · have h1 : (if i = an ∧ j = jn then (1 : Int) else 0) = 1 := if_pos ⟨e, e2⟩
      rw [h1, if_pos e2]; rfl
    · have h1 : (if i = an ∧ j = jn then (1 : Int) else 0) = 0 := if_neg (fun h => e2 h.2)
      rw [h1, if_neg e2]; rfl
  · rw [if_neg e, S_congr (g := fun _ => 0) (fun j hj' => by
      have h1 : (if i = an ∧ j = jn then (1 : Int) else 0) = 0 := if_neg (fun h => e h.1)
      rw [hc i j hi hj', h1]; rfl), S_zero]
theorem nilP (w : World) : PplS w (fun _ => True) (.slice none 0 0) [] := ⟨none, 0, rfl, Nat.le_refl _, fun i hi => by simp at hi⟩

set_option maxRecDepth 100000 in
set_option maxHeartbeats 4000000 in
theorem wFnDiffPeopleOne (a : Option Addr) (len cap : Nat) (z : List Int) (w : World) (h : IsRow .u8 w a len cap z) :
    Calls Try.prog 3 #[.slice a len cap] w fun e w' => e = .returned (.bool true) ∧ Below w.heap.size w w' := by
  have H := Lib.hid h; clear h
  by_cases hl : 1048576 < len
  · go_enter Try.func3, Try.ntmps3
    go_wp2_with fail
    go_ret
    exact ⟨rfl, Below.refl _ _⟩
  go_enter Try.func3, Try.ntmps3
  go_wp2_with fail
  refine (drawPeopleWithout _ _ _ _ _ H.out).mono ?_
  rintro e w1 ⟨v, ps, k, rfl, hp, hl8, bl1⟩
  have HP := Lib.hid hp.out
  have B1 := Lib.hid bl1
  obtain ⟨aa, ca, rfl, _, _⟩ := id hp.out
  clear bl1 hl hp
  go_wp2_with fail
  with_reducible refine (iPeopleWithout _ _ _ ps k HP.out (by omega)).mono ?_
  rintro e w2 ⟨bl2, hI⟩
  have HP2 := Lib.hid (HP.out.below bl2)
  have B2 := Lib.hid (B1.out.trans (bl2.mono B1.out.size))
  rcases hI with ⟨hno, rfl⟩ | ⟨hok, n, hkn, hnl, vo, rfl, ho⟩
  · go_wp2_with fail
    with_reducible refine (sPeopleWithout _ _ _ ps k HP2.out (by omega)).mono ?_
    rintro e w3 ⟨bl3, hS⟩
    have B3 := Lib.hid (B2.out.trans (bl3.mono B2.out.size))
    rcases hS with ⟨_, vw, rfl, hw⟩ | ⟨hok, n, hkn, hnl, _⟩
    rotate_left
    · exact absurd ⟨hok, by omega, by omega⟩ hno
    obtain ⟨aw, cw, rfl, _, _⟩ := id hw
    have HW : Hid (PplS w3 (w2.heap.size ≤ ·) (.slice aw 0 cw) []) := hw
    clear hno bl2 bl3 hw
    go_wp2_with fail
    with_reducible refine (lSamePeople _ _ _ _ _ [] [] (nilP _) HW.out (by simp)).mono ?_
    rintro e w4 ⟨rfl, bl4⟩
    have HW4 := Lib.hid (HW.out.below bl4)
    have B4 := Lib.hid (B3.out.trans (bl4.mono B3.out.size))
    clear bl4
    go_wp2_with fail
    with_reducible refine (lSamePeople _ _ _ _ _ [] [] (nilP _) HW4.out (by simp)).mono ?_
    rintro e w5 ⟨rfl, bl5⟩
    have B5 := Lib.hid (B4.out.trans (bl5.mono B4.out.size))
    clear bl5
    go_wp2_with fail
    go_ret
    exact ⟨rfl, B5.out⟩
  · have HO := Lib.hid ho
    obtain ⟨ao, co, rfl, _, _⟩ := id ho
    have HOK := Lib.hid hok
    have HOE := Lib.hid (pplOk_erase hok hnl)
    have HR1 := Lib.hid (risk_one hok hnl)
    have HKN := Lib.hid hkn
    have HNL := Lib.hid hnl
    have HSUB := Lib.hid (cN_erase_le ps n)
    have hel : (ps.eraseIdx n).length ≤ 1000 := by have := HOE.out.2; omega
    have LX := Lib.hid (lensK (cntT_ok HOK.out.2))
    have LY := Lib.hid (lensK (cntT_ok HOE.out.2))
    clear ho bl2 hok hkn hnl
    go_wp2_with fail
    with_reducible refine (sPeopleWithout _ _ _ ps k HP2.out (by omega)).mono ?_
    rintro e w3 ⟨bl3, hS⟩
    have HP3 := Lib.hid (HP2.out.below bl3)
    have HO3 := Lib.hid (HO.out.below bl3)
    have B3 := Lib.hid (B2.out.trans (bl3.mono B2.out.size))
    rcases hS with ⟨hno, _⟩ | ⟨_, n2, hkn2, _, vw, rfl, hw⟩
    · exact absurd ⟨HOK.out, by have := HKN.out; omega, by have := HKN.out; have := HNL.out; omega⟩ hno
    obtain rfl : n = n2 := by have := HKN.out; omega
    have HW := Lib.hid hw
    obtain ⟨aw, cw, rfl, _, _⟩ := id hw
    clear bl3 hw hkn2 HP HP2 HO
    generalize ps.eraseIdx n = qs at *
    go_wp2_with fail
    with_reducible refine (lSamePeople _ _ _ _ _ qs qs HO3.out HW.out hel).mono ?_
    rintro e w4 ⟨rfl, bl4⟩
    rw [decide_eq_true rfl]
    have HP4 := Lib.hid (HP3.out.below bl4)
    have HO4 := Lib.hid (HO3.out.below bl4)
    have B4 := Lib.hid (B3.out.trans (bl4.mono B3.out.size))
    clear bl4 HP3 HO3 HW
    go_wp2_with fail
    with_reducible refine (iTableOf _ _ _ ps HP4.out HOK.out).mono ?_
    rintro e w5 ⟨gx, cx, ux, rfl, hx, bl5⟩
    have HP5 := Lib.hid (HP4.out.below bl5)
    have HO5 := Lib.hid (HO4.out.below bl5)
    have HX5 := Lib.hid hx
    have B5 := Lib.hid (B4.out.trans (bl5.mono B4.out.size))
    clear bl5 HP4 HO4 hx
    go_wp2_with fail
    with_reducible refine (iTableOf _ _ _ qs HO5.out HOE.out).mono ?_
    rintro e w6 ⟨gy, cy, uy, rfl, hy, bl6⟩
    have HP6 := Lib.hid (HP5.out.below bl6)
    have HO6 := Lib.hid (HO5.out.below bl6)
    have HX6 := Lib.hid (HX5.out.below bl6)
    have HY6 := Lib.hid hy
    have B6 := Lib.hid (B5.out.trans (bl6.mono B5.out.size))
    clear bl6 HP5 HO5 HX5 hy
    go_wp2_with fail
    with_reducible refine (iDiffPeople _ _ _ _ _ ps qs HP6.out HO6.out HOK.out HOE.out HSUB.out).mono ?_
    rintro e w7 ⟨rfl, bl7⟩
    have HX7 := Lib.hid (HX6.out.below bl7)
    have HY7 := Lib.hid (HY6.out.below bl7)
    have B7 := Lib.hid (B6.out.trans (bl7.mono B6.out.size))
    clear bl7 HX6 HY6
    go_wp2_with fail
    with_reducible refine (iDiffRisk _ _ _ _ _ (cntT ps) (cntT qs) 2 1 HX7.out.ints HY7.out.ints LX.out LY.out HR1).mono ?_
    rintro e w8 ⟨rfl, bl8⟩
    have B8 := Lib.hid (B7.out.trans (bl8.mono B7.out.size))
    clear bl8
    go_wp2_with fail
    go_ret
    exact ⟨rfl, B8.out⟩

end Go.Proofs.Ytdlpcoafbmhjjaa
