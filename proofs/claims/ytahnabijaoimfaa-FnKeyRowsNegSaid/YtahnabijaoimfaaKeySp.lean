/- Contracts of KeySpread, of the program and of the reference. -/
import Derived.Test.YtahnabijaoimfaaKeyM
namespace Go.Proofs.Ytahnabijaoimfaa
open Go.RowKit

/-- the greatest absolute value -/
def mx (l : List Int) : Int := l.foldl (fun m c => max m (max c (-c))) 0
theorem mx_snoc (l : List Int) (c : Int) : mx (l ++ [c]) = max (mx l) (max c (-c)) := by unfold mx; rw [List.foldl_append]; rfl
theorem mx_bd {l : List Int} (h : ∀ z ∈ l, -10 ≤ z ∧ z ≤ 10) : 0 ≤ mx l ∧ mx l ≤ 10 := by
  have : ∀ (l : List Int) (s : Int), (∀ z ∈ l, -10 ≤ z ∧ z ≤ 10) → 0 ≤ s → s ≤ 10 → 0 ≤ l.foldl (fun m c => max m (max c (-c))) s ∧ l.foldl (fun m c => max m (max c (-c))) s ≤ 10 := by
    intro l
    induction l with
    | nil => intro s _ h0 h1; exact ⟨h0, h1⟩
    | cons a l ih =>
      intro s h h0 h1
      have := h a (by simp)
      exact ih _ (fun z hz => h z (by simp [hz])) (by show 0 ≤ max s (max a (-a)); omega) (by show max s (max a (-a)) ≤ 10; omega)
  exact this l 0 h (by omega) (by omega)

/-- what KeySpread returns -/
def kspread (t : List (List Int)) : Int := if rowsOk t then mx t.flatten else -1
theorem kspread_in {t : List (List Int)} (h : rowsOk t) : kspread t = mx t.flatten := if_pos h
theorem kspread_out {t : List (List Int)} (h : ¬ rowsOk t) : kspread t = -1 := if_neg h

theorem flat_snoc {t : List (List Int)} {k : Nat} {r : List Int} (hlt : k < t.length) (hr : t[k]?.getD [] = r) : (t.take (k + 1)).flatten = (t.take k).flatten ++ r := by
  rw [List.take_succ_eq_append_getElem hlt, List.flatten_append]
  rw [List.getElem?_eq_getElem hlt] at hr
  simp at hr
  simp [hr]
theorem flat_bd {t : List (List Int)} (h : rowsOk t) (k : Nat) : ∀ z ∈ (t.take k).flatten, -10 ≤ z ∧ z ≤ 10 := by
  intro z hz
  obtain ⟨r, hr, hzr⟩ := List.mem_flatten.1 hz
  obtain ⟨i, hi, rfl⟩ := List.mem_iff_getElem.1 (List.mem_of_mem_take hr)
  have := h.1 i hi
  rw [List.getElem?_eq_getElem hi] at this
  exact ⟨(this.2.2 z hzr).1, (this.2.2 z hzr).2.1⟩
theorem row_bd {t : List (List Int)} (h : rowsOk t) {k : Nat} {r : List Int} (hlt : k < t.length) (hr : t[k]?.getD [] = r) : r.length = 16 ∧ ∀ z ∈ r, -10 ≤ z ∧ z ≤ 10 := by
  have := h.1 k hlt
  rw [hr] at this
  exact ⟨this.1, fun z hz => ⟨(this.2.2 z hz).1, (this.2.2 z hz).2.1⟩⟩
theorem app_bd {a b : List Int} (ha : ∀ z ∈ a, -10 ≤ z ∧ z ≤ 10) (hb : ∀ z ∈ b, -10 ≤ z ∧ z ≤ 10) : ∀ z ∈ a ++ b, -10 ≤ z ∧ z ≤ 10 := by
  intro z hz
  rcases List.mem_append.1 hz with h | h
  · exact ha z h
  · exact hb z h

set_option maxHeartbeats 1000000 in
theorem iKeySpread (w : World) (P : Nat → Prop) (v : Value) (t : List (List Int)) (d : Int) (h : IntSS w P v t) (hl : lensT t) (hd : Hid (kspread t = d)) :
    Calls Try.prog 19 #[v] w fun e w' => e = .returned (.int .i64 d) ∧ w = w' := by
  have HH := Lib.hid h
  have HL := Lib.hid hl
  by_cases hk : rowsOk t
  · have HK := Lib.hid hk
    have HV : Hid (mx t.flatten = d) := (kspread_in hk).symm.trans hd.out
    have ht8 : t.length ≤ 8 := hk.2.2
    obtain ⟨a, cap, rfl, _, hR⟩ := h
    have HR := Lib.hid hR
    clear hd hl hk hR
    go_enter Try.func19, Try.ntmps19
    go_wp2_with fail
    with_reducible refine (iKeyRows_t _ _ _ t HH.out HL.out HK.out).mono ?_
    rintro e w' ⟨rfl, rfl⟩
    go_wp2_with fail
    go_loop [3, 13] (fun s i => ∃ k : Nat, k ≤ t.length ∧ i = .int .i64 k ∧ s = .int .i64 (mx (t.take k).flatten)) (fun _ i => t.length - (intOf i).toNat)
    case atStart => exact ⟨0, Nat.zero_le _, rfl, rfl⟩
    case round =>
      obtain ⟨k, hkk, rfl, rfl⟩ := hrel
      by_cases hlt : k < t.length
      · obtain ⟨r, hrr⟩ : ∃ r, t[k]?.getD [] = r := ⟨_, rfl⟩
        obtain ⟨b, off, ai, ci, rfl, _, hc, hi⟩ := HR.out.row hlt r hrr
        obtain ⟨_, _, hv, _, hrow⟩ := hi
        cases hv
        have HROW := Lib.hid hrow
        have HF := Lib.hid (flat_snoc hlt hrr)
        obtain ⟨hr16, hrb⟩ := row_bd HK.out hlt hrr
        have hrl : r.length ≤ 16 := by omega
        have HB := Lib.hid (fun q => mx_bd (app_bd (flat_bd HK.out k) (b := r.take q) (fun z hz => hrb z (List.mem_of_mem_take hz))))
        have HRB := Lib.hid hrb
        clear hrow hrr hr16 hrb
        go_wp2_with fail
        go_loop [3, 19] (fun s i => ∃ q : Nat, q ≤ r.length ∧ i = .int .i64 q ∧ s = .int .i64 (mx ((t.take k).flatten ++ r.take q))) (fun _ i => r.length - (intOf i).toNat)
        case atStart => exact ⟨0, Nat.zero_le _, rfl, by simp⟩
        case round =>
          obtain ⟨q, hq, rfl, rfl⟩ := hrel
          obtain ⟨m1, m2⟩ := HB.out q
          by_cases hqlt : q < r.length
          · obtain ⟨b2, off2, rfl, _, hc2⟩ := HROW.out q hqlt
            have HS := take_snoc hqlt
            obtain ⟨c, hcc⟩ : ∃ c, r[q]?.getD 0 = c := ⟨_, rfl⟩
            have hcb := HRB.out c (by rw [← hcc, List.getElem?_eq_getElem hqlt]; exact List.getElem_mem hqlt)
            obtain ⟨c1, c2⟩ := hcb
            rw [hcc] at hc2 HS
            have HM : Hid (mx ((t.take k).flatten ++ r.take (q + 1)) = max (mx ((t.take k).flatten ++ r.take q)) (max c (-c))) := by unfold Hid; rw [HS, ← List.append_assoc, mx_snoc]
            clear HS hcc
            generalize mx ((t.take k).flatten ++ r.take q) = m at *
            go_wp2_with fail
            all_goals
              go_round
              case rel => exact ⟨q + 1, by omega, by go_num, by rw [HM.out]; exact congrArg _ (by omega)⟩
              case measure => simp [intOf]; omega
          · have HT : Hid (r.take q = r) := List.take_of_length_le (by omega)
            go_wp2_with fail
            go_round
            case rel => exact ⟨k + 1, by omega, by go_num, by rw [HT.out, HF.out]⟩
            case measure => simp [intOf]; omega
      · have HT : Hid (t.take k = t) := List.take_of_length_le (by omega)
        go_wp2_with fail
        go_ret
        exact ⟨ret_i (by rw [HT.out]; exact HV.out), rfl⟩
  · have HK := Lib.hid hk
    have hv := kspread_out hk
    rw [hd.out] at hv; subst hv; clear hd hl h hk
    go_enter Try.func19, Try.ntmps19
    go_wp2_with fail
    with_reducible refine (iKeyRows_f _ _ _ t HH.out HL.out HK.out).mono ?_
    rintro e w' ⟨rfl, rfl⟩
    go_wp2_with fail
    go_ret
    exact ⟨rfl, rfl⟩

set_option maxHeartbeats 1000000 in
theorem sKeySpread (w : World) (P : Nat → Prop) (v : Value) (t : List (List Int)) (d : Int) (h : IntSS w P v t) (hl : lensT t) (hd : Hid (kspread t = d)) :
    Calls Try.prog 24 #[v] w fun e w' => e = .returned (.int .i64 d) ∧ ∃ n, w' = w.drewN n := by
  have HH := Lib.hid h
  have HL := Lib.hid hl
  by_cases hk : rowsOk t
  · have HK := Lib.hid hk
    have HV : Hid (mx t.flatten = d) := (kspread_in hk).symm.trans hd.out
    have ht8 : t.length ≤ 8 := hk.2.2
    obtain ⟨a, cap, rfl, _, hR⟩ := h
    have HR := Lib.hid hR
    clear hd hl hk hR
    go_enter Try.func24, Try.ntmps24
    go_wp2_with fail
    with_reducible refine (sKeyRows_t _ _ _ t HH.out HL.out HK.out).mono ?_
    rintro e w' ⟨rfl, rfl⟩
    go_wp2_with fail
    go_loopw [3, 4] (fun s i wr => ∃ (k n : Nat), k ≤ t.length ∧ i = .int .i64 k ∧ s = .int .i64 (mx (t.take k).flatten) ∧ wr = w.drewN n) (fun _ i _ => t.length - (intOf i).toNat)
    case atStart => exact ⟨0, 0, Nat.zero_le _, rfl, rfl, rfl⟩
    case round =>
      obtain ⟨k, n, hkk, rfl, rfl, rfl⟩ := hrel
      by_cases hlt : k < t.length
      · obtain ⟨r, hrr⟩ : ∃ r, t[k]?.getD [] = r := ⟨_, rfl⟩
        obtain ⟨b, off, ai, ci, rfl, _, hc, hi⟩ := HR.out.row hlt r hrr
        obtain ⟨_, _, hv, _, hrow⟩ := hi
        cases hv
        have HROW := Lib.hid hrow
        have HF := Lib.hid (flat_snoc hlt hrr)
        obtain ⟨hr16, hrb⟩ := row_bd HK.out hlt hrr
        have hrl : r.length ≤ 16 := by omega
        have HB := Lib.hid (fun q => mx_bd (app_bd (flat_bd HK.out k) (b := r.take q) (fun z hz => hrb z (List.mem_of_mem_take hz))))
        have HRB := Lib.hid hrb
        clear hrow hrr hr16 hrb
        go_wp2_with fail
        go_loopw [3, 5] (fun s i wr => ∃ (q n : Nat), q ≤ r.length ∧ i = .int .i64 q ∧ s = .int .i64 (mx ((t.take k).flatten ++ r.take q)) ∧ wr = w.drewN n) (fun _ i _ => r.length - (intOf i).toNat)
        case atStart => exact ⟨0, n, Nat.zero_le _, rfl, by simp, rfl⟩
        case round =>
          obtain ⟨q, n, hq, rfl, rfl, rfl⟩ := hrel
          obtain ⟨m1, m2⟩ := HB.out q
          by_cases hqlt : q < r.length
          · obtain ⟨b2, off2, rfl, _, hc2⟩ := HROW.out q hqlt
            have HS := take_snoc hqlt
            obtain ⟨c, hcc⟩ : ∃ c, r[q]?.getD 0 = c := ⟨_, rfl⟩
            have hcb := HRB.out c (by rw [← hcc, List.getElem?_eq_getElem hqlt]; exact List.getElem_mem hqlt)
            obtain ⟨c1, c2⟩ := hcb
            rw [hcc] at hc2 HS
            have HM : Hid (mx ((t.take k).flatten ++ r.take (q + 1)) = max (mx ((t.take k).flatten ++ r.take q)) (max c (-c))) := by unfold Hid; rw [HS, ← List.append_assoc, mx_snoc]
            clear HS hcc
            generalize mx ((t.take k).flatten ++ r.take q) = m at *
            have hki : (k : Int) < (t.length : Int) := by omega
            have hqi : (q : Int) < (r.length : Int) := by omega
            have e1 := IntWalk.i64_in (0 - c) (by omega)
            go_wp2_with fail
            go_quiet (fail)
            clear e1
            go_wp2_with fail
            all_goals
              go_roundw
              case rel => exact ⟨q + 1, _, by omega, by go_num, by rw [HM.out]; exact congrArg _ (by omega), rfl⟩
              case measure => simp [intOf]; omega
          · have HT : Hid (r.take q = r) := List.take_of_length_le (by omega)
            go_wp2_with fail
            go_roundw
            case rel => exact ⟨k + 1, n, by omega, by go_num, by rw [HT.out, HF.out], rfl⟩
            case measure => simp [intOf]; omega
      · have HT : Hid (t.take k = t) := List.take_of_length_le (by omega)
        go_wp2_with fail
        go_ret
        exact ⟨ret_i (by rw [HT.out]; exact HV.out), n, rfl⟩
  · have HK := Lib.hid hk
    have hv := kspread_out hk
    rw [hd.out] at hv; subst hv; clear hd hl h hk
    go_enter Try.func24, Try.ntmps24
    go_wp2_with fail
    with_reducible refine (sKeyRows_f _ _ _ t HH.out HL.out HK.out).mono ?_
    rintro e w' ⟨rfl, rfl⟩
    go_wp2_with fail
    go_ret
    exact ⟨rfl, 0, rfl⟩

end Go.Proofs.Ytahnabijaoimfaa
