/- The walk of the law on spreads. -/
import Derived.Test.YtahnabijaoimfaaLawsR3
namespace Go.Proofs.Ytahnabijaoimfaa
open Go.RowKit

/-- some number has this absolute value -/
def anyEq (o : Int) (l : List Int) : Bool := l.any fun c => max c (-c) == o
theorem anyEq_snoc (o : Int) (l : List Int) (c : Int) : anyEq o (l ++ [c]) = (anyEq o l || (max c (-c) == o)) := by simp [anyEq]
theorem mx_le (l : List Int) (s : Int) : s ≤ l.foldl (fun m c => max m (max c (-c))) s ∧ ∀ c ∈ l, max c (-c) ≤ l.foldl (fun m c => max m (max c (-c))) s := by
  induction l generalizing s with
  | nil => exact ⟨Int.le_refl _, by simp⟩
  | cons a l ih =>
    have := ih (max s (max a (-a)))
    simp only [List.foldl_cons]
    refine ⟨by omega, fun c hc => ?_⟩
    rcases List.mem_cons.1 hc with rfl | hc
    · omega
    · exact this.2 c hc
theorem mx_at (l : List Int) (s : Int) : l.foldl (fun m c => max m (max c (-c))) s = s ∨ ∃ c ∈ l, l.foldl (fun m c => max m (max c (-c))) s = max c (-c) := by
  induction l generalizing s with
  | nil => exact .inl rfl
  | cons a l ih =>
    simp only [List.foldl_cons]
    rcases ih (max s (max a (-a))) with h | ⟨c, hc, h⟩
    · by_cases e : max a (-a) ≤ s
      · left; omega
      · right; exact ⟨a, by simp, by omega⟩
    · right; exact ⟨c, by simp [hc], h⟩
theorem anyEq_mx {l : List Int} (h : l ≠ []) : anyEq (mx l) l = true := by
  unfold anyEq
  rw [List.any_eq_true]
  rcases mx_at l 0 with e | ⟨c, hc, e⟩
  · obtain ⟨c, hc⟩ := List.exists_mem_of_ne_nil l h
    have := (mx_le l 0).2 c hc
    exact ⟨c, hc, by unfold mx; simp only [beq_iff_eq]; omega⟩
  · exact ⟨c, hc, by unfold mx; simp only [beq_iff_eq]; exact e.symm⟩
theorem mx_mono (l1 l2 : List Int) : mx l1 ≤ mx (l1 ++ l2) := by
  unfold mx; rw [List.foldl_append]; exact (mx_le l2 _).1
theorem flat_ne {t : List (List Int)} (h : rowsOk t) : t.flatten ≠ [] := by
  intro e
  have h0 := h.1 0 (by have := h.2.1; omega)
  have hl : 0 < t.length := by have := h.2.1; omega
  rw [List.getElem?_eq_getElem hl] at h0
  have : t[0] = [] := List.flatten_eq_nil_iff.1 e _ (List.getElem_mem hl)
  rw [this] at h0
  have := h0.1
  simp at this
theorem mx_take (t : List (List Int)) (k : Nat) : mx (t.take k).flatten ≤ mx t.flatten := by
  have : t.flatten = (t.take k).flatten ++ (t.drop k).flatten := by rw [← List.flatten_append, List.take_append_drop]
  rw [this]; exact mx_mono _ _

set_option maxHeartbeats 1000000 in
theorem wFnKeySpread (a : Option Addr) (len cap : Nat) (z : List Int) (a1 : Option Addr) (len1 cap1 : Nat) (z1 : List Int) (w : World) (h : IsRow .u8 w a len cap z) (_ : IsRow .u8 w a1 len1 cap1 z1) :
    Calls Try.prog 9 #[.slice a len cap, .slice a1 len1 cap1] w fun e w' => e = .returned (.bool true) ∧ Below w.heap.size w w' := by
  have H := Lib.hid h; clear h
  by_cases hl : 1048576 < len
  · go_enter Try.func9, Try.ntmps9
    go_wp2_with fail
    go_ret
    exact ⟨rfl, Below.refl _ _⟩
  by_cases hl1 : 1048576 < len1
  · have d1 : decide ((1048576 : Int) < (len1 : Int)) = true := by simp; omega
    go_enter Try.func9, Try.ntmps9
    go_wp2_with fail
    go_ret
    exact ⟨rfl, Below.refl _ _⟩
  have d1 : decide ((1048576 : Int) < (len1 : Int)) = false := by simp; omega
  go_enter Try.func9, Try.ntmps9
  go_wp2_with fail
  refine (drawKeySpread _ _ _ _ _ H.out).mono ?_
  rintro e w1 ⟨v, t, us, rfl, ho, htl, hlens, hb⟩
  have HI := Lib.hid ho.ints
  have HM := Lib.hid (lensT_of htl hlens.out)
  obtain ⟨g, cp, rfl, hgb, hgs, hcp1, hcp2⟩ := ho.form
  clear ho hlens
  by_cases hk0 : rowsOk t
  · obtain ⟨o, hoo⟩ : ∃ o, mx t.flatten = o := ⟨_, rfl⟩
    have HD : Hid (kspread t = o) := (kspread_in hk0).trans hoo
    have hbd := mx_bd (l := t.flatten) (by have := flat_bd hk0 t.length; rwa [List.take_of_length_le (Nat.le_refl _)] at this)
    rw [hoo] at hbd
    obtain ⟨ob1, ob2⟩ := hbd
    have ht1 : 1 ≤ t.length := hk0.2.1
    obtain ⟨k, hkl, hke⟩ := mod_nat len1 t.length ht1
    have hke2 : (len1 : Int).tmod (t.length : Int) = (k : Int) := by rw [Int.tmod_eq_emod_of_nonneg (by omega)]; exact hke
    obtain ⟨o2, ho2⟩ : ∃ o2, mx (t.take (1 + k)).flatten = o2 := ⟨_, rfl⟩
    have ho22 : o2 ≤ o := by rw [← ho2, ← hoo]; exact mx_take t _
    have HD2 : Hid (kspread (t.take (1 + k)) = o2) := (kspread_in (rowsOk_take hk0 (1 + k) (by omega) (by omega))).trans ho2
    have HK := Lib.hid hk0
    have HANY : Hid (anyEq o t.flatten = true) := by unfold Hid; rw [← hoo]; exact anyEq_mx (flat_ne hk0)
    have HLE : Hid (∀ c ∈ t.flatten, max c (-c) ≤ o) := by rw [← hoo]; exact (mx_le t.flatten 0).2
    clear hk0 hoo ho2
    go_wp2_with fail
    with_reducible refine (iKeySpread _ _ _ t _ HI.out HM.out HD).mono ?_
    rintro e w' ⟨rfl, rfl⟩
    go_wp2_with fail
    with_reducible refine (sKeySpread _ _ _ t _ HI.out HM.out HD).mono ?_
    rintro e w' ⟨rfl, nd, rfl⟩
    have c2 : decide (o < 0) = false := by simp; omega
    have d10 : decide (o ≤ 10) = true := by simp; omega
    have d22 : decide (o2 ≤ o) = true := by simp; omega
    unfold maxLen at hcp2
    have HR : Hid (RowsIn w1 (fun x => w.heap.size ≤ x) (some ⟨g, 0, none⟩) t) := by
      obtain ⟨_, _, hv, _, hr⟩ := HI.out
      cases hv
      exact hr
    go_wp2_with fail
    go_loopw [9, 10] (fun f i wr => ∃ (k n : Nat), k ≤ t.length ∧ i = .int .i64 k ∧ f = .bool (anyEq o (t.take k).flatten) ∧ wr = w1.drewN n) (fun _ i _ => t.length - (intOf i).toNat)
    case atStart => exact ⟨0, nd, Nat.zero_le _, rfl, rfl, rfl⟩
    case round =>
      obtain ⟨i, n, hik, rfl, rfl, rfl⟩ := hrel
      by_cases hlt : i < t.length
      · obtain ⟨r, hrr⟩ : ∃ r, t[i]?.getD [] = r := ⟨_, rfl⟩
        obtain ⟨b, off, ai, ci, hba, _, hc, hi⟩ := HR.out.row hlt r hrr
        cases hba
        obtain ⟨_, _, hv, _, hrow⟩ := hi
        cases hv
        have HROW := Lib.hid hrow
        have HF := Lib.hid (flat_snoc hlt hrr)
        obtain ⟨hr16, hrb⟩ := row_bd HK.out hlt hrr
        have hrl : r.length ≤ 16 := by omega
        have HRB := Lib.hid hrb
        have HRM : Hid (r ∈ t) := by unfold Hid; rw [← hrr, List.getElem?_eq_getElem hlt]; exact List.getElem_mem hlt
        rw [Nat.zero_add] at hc
        clear hrow hrr hr16 hrb
        go_wp2_with fail
        go_loopw [9, 11] (fun f j wr => ∃ (q n : Nat), q ≤ r.length ∧ j = .int .i64 q ∧ f = .bool (anyEq o ((t.take i).flatten ++ r.take q)) ∧ wr = w1.drewN n) (fun _ j _ => r.length - (intOf j).toNat)
        case atStart => exact ⟨0, n, Nat.zero_le _, rfl, by simp, rfl⟩
        case round =>
          obtain ⟨q, n, hq, rfl, rfl, rfl⟩ := hrel
          by_cases hqlt : q < r.length
          · obtain ⟨b2, off2, rfl, _, hc2⟩ := HROW.out q hqlt
            have HS := take_snoc hqlt
            obtain ⟨c, hcc⟩ : ∃ c, r[q]?.getD 0 = c := ⟨_, rfl⟩
            have hcm : c ∈ r := by rw [← hcc, List.getElem?_eq_getElem hqlt]; exact List.getElem_mem hqlt
            obtain ⟨cb1, cb2⟩ := HRB.out c hcm
            have hco := HLE.out c (List.mem_flatten.2 ⟨r, HRM.out, hcm⟩)
            rw [hcc] at hc2 HS
            have HE : Hid (anyEq o ((t.take i).flatten ++ r.take (q + 1)) = (anyEq o ((t.take i).flatten ++ r.take q) || (max c (-c) == o))) := by unfold Hid; rw [HS, ← List.append_assoc, anyEq_snoc]
            clear HS hcc hcm
            generalize anyEq o ((t.take i).flatten ++ r.take q) = fb at *
            have hki : (i : Int) < (t.length : Int) := by omega
            have hqi : (q : Int) < (r.length : Int) := by omega
            have e1 := IntWalk.i64_in (0 - c) (by omega)
            go_wp2_with fail
            go_quiet (fail)
            clear e1
            cases fb
            · go_wp2_with fail
              all_goals
                go_roundw
                case rel => exact ⟨q + 1, _, by omega, by go_num, by rw [HE.out]; exact congrArg Value.bool (by simp only [Bool.false_or]; first | rfl | (congr 1; omega)), rfl⟩
                case measure => simp [intOf]; omega
            · go_wp2_with fail
              all_goals
                go_roundw
                case rel => exact ⟨q + 1, _, by omega, by go_num, by rw [HE.out]; rfl, rfl⟩
                case measure => simp [intOf]; omega
          · have HT : Hid (r.take q = r) := List.take_of_length_le (by omega)
            go_wp2_with fail
            go_roundw
            case rel => exact ⟨i + 1, n, by omega, by go_num, by rw [HT.out, HF.out], rfl⟩
            case measure => simp [intOf]; omega
      · have HT : Hid (t.take i = t) := List.take_of_length_le (by omega)
        rw [HT.out, HANY.out]
        go_wp2_with fail
        with_reducible refine (iKeySpread _ _ _ (t.take (1 + k)) _ ((HI.out.take (1 + k) (by omega)).drewN n) (lensT_take HM.out _) HD2).mono ?_
        rintro e w' ⟨rfl, rfl⟩
        go_wp2_with fail
        go_ret
        exact ⟨rfl, below_drewN hb n⟩
  · have HD := Lib.hid (kspread_out hk0)
    clear hk0
    go_wp2_with fail
    with_reducible refine (iKeySpread _ _ _ t _ HI.out HM.out HD).mono ?_
    rintro e w' ⟨rfl, rfl⟩
    go_wp2_with fail
    with_reducible refine (sKeySpread _ _ _ t _ HI.out HM.out HD).mono ?_
    rintro e w' ⟨rfl, nd, rfl⟩
    go_wp2_with fail
    go_ret
    exact ⟨rfl, below_drewN hb nd⟩

end Go.Proofs.Ytahnabijaoimfaa
