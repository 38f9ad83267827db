/- Mark, Held in one text. (Put together by wip/tools/merge.py.) -/
import Derived.Test.YtihkahojicafiaaKeeps
import Derived.Test.YtihkahojicafiaaDrawT2
import Derived.Test.YtihkahojicafiaaKeyD0
import Derived.Test.YtihkahojicafiaaShape
namespace Go.Proofs.Ytihkahojicafiaa
open Go.RowKit

/-- the cells ahead of a row -/
def offT (t : List (List Int)) : Nat → Nat
  | 0 => 0
  | i + 1 => offT t i + wid t i
theorem offT_congr {t u : List (List Int)} (h : ∀ r, wid u r = wid t r) : ∀ i, offT u i = offT t i
  | 0 => rfl
  | i + 1 => by unfold offT; rw [offT_congr h i, h i]
theorem offT_le {t : List (List Int)} (h : ∀ r, wid t r ≤ 1048576) : ∀ i, offT t i ≤ i * 1048576
  | 0 => Nat.le_refl _
  | i + 1 => by have := offT_le h i; have := h i; unfold offT; omega

set_option maxHeartbeats 1000000 in
theorem lMarkIntS (w : World) (base g n cap : Nat) (T : List (List Int)) (us : List Value) (k : Int) (i gi ci : Nat) (h : OwnU w base (.slice (some ⟨g, 0, none⟩) n cap) T us) (hi : i < T.length) (hu : us[i]? = some (.slice (some ⟨gi, 0, none⟩) (wid T i) ci))
    (hk0 : 0 ≤ k) (hk1 : k ≤ 1099513724928) (hw : wid T i ≤ 1048576) :
    Calls Try.prog 54 #[.slice (some ⟨gi, 0, none⟩) (wid T i) ci, .int .i64 k] w fun e w' => e = .returned (.int .i64 (k + (wid T i : Nat))) ∧ ∃ T', OwnU w' base (.slice (some ⟨g, 0, none⟩) n cap) T' us ∧ T'.length = T.length ∧ (∀ r, wid T' r = wid T r) ∧
      (∀ r q, r < T.length → q < wid T r → cel T' r q = if r = i then k + (q : Int) else cel T r q) ∧ Keeps (fun k => ¬ blksU (.slice (some ⟨g, 0, none⟩) n cap) us k) w w' := by
  have HO := Lib.hid h
  have HU := Lib.hid hu
  have HI := Lib.hid hi
  obtain ⟨m, hm⟩ : ∃ m, wid T i = m := ⟨_, rfl⟩
  have HM := Lib.hid hm
  rw [hm] at HU hw ⊢
  have HBG : Hid (blksU (.slice (some ⟨g, 0, none⟩) n cap) us gi) := .inr ⟨i, by rw [h.len]; exact hi, by rw [hu]; rfl⟩
  clear h hu hi hm
  go_enter Try.func54, Try.ntmps54
  go_wp2_with fail
  go_loopw [1, 5] (fun kk j wr => ∃ (q : Nat) (T' : List (List Int)), q ≤ m ∧ j = .int .i64 q ∧ kk = .int .i64 (k + (q : Int)) ∧ Hid (OwnU wr base (.slice (some ⟨g, 0, none⟩) n cap) T' us) ∧ Hid (T'.length = T.length ∧ ∀ r, wid T' r = wid T r) ∧
      Hid (∀ r c, r < T.length → c < wid T r → cel T' r c = if r = i ∧ c < q then k + (c : Int) else cel T r c) ∧ Hid (Keeps (fun k => ¬ blksU (.slice (some ⟨g, 0, none⟩) n cap) us k) w wr)) (fun _ j _ => m - (intOf j).toNat)
  case atStart => exact ⟨0, T, Nat.zero_le _, rfl, by simp, HO, ⟨rfl, fun _ => rfl⟩, fun r c _ _ => by simp, Keeps.refl _ _⟩
  case round =>
    obtain ⟨q, T', hq, rfl, rfl, HO', HD, HC, HK⟩ := hrel
    by_cases hlt : q < m
    · have hi' : i < T'.length := by rw [HD.out.1]; exact HI.out
      have hw' : wid T' i = m := by rw [HD.out.2]; exact HM.out
      obtain ⟨hcel, hfrz⟩ := HO'.out.at hi' HU.out (j := q) (by unfold wid at hw'; omega)
      have qi : (q : Int) < (m : Int) := by omega
      have cw : IntKind.i64.wrap (k + (q : Int) + 1) = k + (q : Int) + 1 := by rw [IntKind.wrap_i64]; omega
      have HX := Lib.hid (OwnU.setT HO'.out hi' HU.out q (k + (q : Int)))
      have HC2 : Hid (∀ r c, r < T.length → c < wid T r → cel (setT T' i q (k + (q : Int))) r c = if r = i ∧ c < q + 1 then k + (c : Int) else cel T r c) := fun r c hr hc => by
        rw [setT_cel hi' (by rw [hw']; exact hlt), HC.out r c hr hc]
        by_cases e : r = i ∧ c = q
        · rw [if_pos e, if_pos (by omega), e.2]
        · rw [if_neg e]
          by_cases e2 : r = i ∧ c < q
          · rw [if_pos e2, if_pos (by omega)]
          · rw [if_neg e2, if_neg (by omega)]
      go_wp2_with fail
      go_roundw
      case rel => exact ⟨q + 1, setT T' i q (k + (q : Int)), by omega, by go_num, by push_cast; rw [← Int.add_assoc], HX, ⟨by rw [setT_len]; exact HD.out.1, fun r => by rw [setT_wid]; exact HD.out.2 r⟩, HC2, HK.out.trans (Keeps.setCell _ _ _ _ (fun h => h HBG.out))⟩
      case measure => simp [intOf]; omega
    · have hqe : q = m := by omega
      subst hqe
      go_wp2_with fail
      go_ret
      exact ⟨rfl, T', HO'.out, HD.out.1, HD.out.2, fun r c hr hc => by
        rw [HC.out r c hr hc]
        by_cases e : r = i
        · rw [if_pos e, if_pos ⟨e, by rw [e, HM.out] at hc; exact hc⟩]
        · rw [if_neg e, if_neg (fun h => e h.1)], HK.out⟩

set_option maxHeartbeats 1000000 in
theorem lMarkIntSS (w : World) (base g n cap : Nat) (T : List (List Int)) (us : List Value) (h : OwnU w base (.slice (some ⟨g, 0, none⟩) n cap) T us) (hl : T.length ≤ 1048576) (hw : ∀ r, wid T r ≤ 1048576) :
    Calls Try.prog 25 #[.slice (some ⟨g, 0, none⟩) n cap, .int .i64 1] w fun e w' => e = .returned (.int .i64 (1 + (offT T T.length : Nat))) ∧ ∃ T', OwnU w' base (.slice (some ⟨g, 0, none⟩) n cap) T' us ∧ T'.length = T.length ∧ (∀ r, wid T' r = wid T r) ∧
      (∀ r q, r < T.length → q < wid T r → cel T' r q = 1 + (offT T r : Int) + (q : Int)) ∧ Keeps (fun k => ¬ blksU (.slice (some ⟨g, 0, none⟩) n cap) us k) w w' := by
  have HO := Lib.hid h
  have HW := Lib.hid hw
  obtain ⟨_, _, he, _⟩ := h.form
  have hn : n = T.length := by simpa using congrArg (fun v => match v with | Value.slice _ n _ => n | _ => 0) he
  have HN := Lib.hid hn.symm
  rw [HN.out]
  have hn2 : n ≤ 1048576 := by omega
  clear h hw he hn
  go_enter Try.func25, Try.ntmps25
  go_wp2_with fail
  go_loopw [1, 5] (fun kk j wr => ∃ (i : Nat) (T' : List (List Int)), i ≤ n ∧ j = .int .i64 i ∧ kk = .int .i64 (1 + (offT T i : Int)) ∧ Hid (OwnU wr base (.slice (some ⟨g, 0, none⟩) n cap) T' us) ∧ Hid (T'.length = T.length ∧ ∀ r, wid T' r = wid T r) ∧
      Hid (∀ r c, r < i → c < wid T r → cel T' r c = 1 + (offT T r : Int) + (c : Int)) ∧ Hid (Keeps (fun k => ¬ blksU (.slice (some ⟨g, 0, none⟩) n cap) us k) w wr)) (fun _ j _ => n - (intOf j).toNat)
  case atStart => exact ⟨0, T, Nat.zero_le _, rfl, by simp [offT], HO, ⟨rfl, fun _ => rfl⟩, fun r c h _ => by omega, Keeps.refl _ _⟩
  case round =>
    obtain ⟨i, T', hi, rfl, rfl, HO', HD, HC, HK⟩ := hrel
    by_cases hlt : i < n
    · have hi' : i < T'.length := by rw [HD.out.1, HN.out]; exact hlt
      obtain ⟨gi, ci, hu, hrow, _⟩ := HO'.out.rowW hi'
      have HU := Lib.hid hu
      have ii : (i : Int) < (n : Int) := by omega
      have ho := offT_le HW.out i
      have hwi := HW.out i
      have hb : 1 + (offT T i : Int) ≤ 1099513724928 := by
        have : i * 1048576 ≤ 1048576 * 1048576 := Nat.mul_le_mul_right _ (by omega)
        omega
      have hb0 : (0 : Int) ≤ 1 + (offT T i : Int) := by omega
      have hw3 : wid T' i ≤ 1048576 := by rw [HD.out.2]; exact hwi
      clear hu ho
      go_wp2_with fail
      with_reducible refine (lMarkIntS _ base g n cap T' us (1 + (offT T i : Int)) i gi ci HO'.out hi' HU.out hb0 hb hw3).mono ?_
      rintro e w2 ⟨rfl, T2, ho2, hl2, hw2, hc2, hk2⟩
      have HO2 := Lib.hid ho2
      have HK2 := Lib.hid (HK.out.trans hk2)
      have HD2 : Hid (T2.length = T.length ∧ ∀ r, wid T2 r = wid T r) := ⟨by rw [hl2]; exact HD.out.1, fun r => by rw [hw2]; exact HD.out.2 r⟩
      have HC2 : Hid (∀ r c, r < i + 1 → c < wid T r → cel T2 r c = 1 + (offT T r : Int) + (c : Int)) := fun r c hr hc => by
        rw [hc2 r c (by omega) (by rw [HD.out.2]; exact hc)]
        by_cases e : r = i
        · rw [if_pos e, e]
        · rw [if_neg e]; exact HC.out r c (by omega) hc
      have HS : Hid (1 + (offT T i : Int) + ((wid T' i : Nat) : Int) = 1 + (offT T (i + 1) : Int)) := by unfold Hid; rw [HD.out.2, offT]; push_cast; omega
      rw [HS.out]
      clear ho2 hk2 hl2 hw2 hc2
      go_wp2_with fail
      go_roundw
      case rel => exact ⟨i + 1, T2, by omega, by go_num, rfl, HO2, HD2, HC2, HK2⟩
      case measure => simp [intOf]; omega
    · have hie : i = n := by omega
      subst hie
      go_wp2_with fail
      go_ret
      exact ⟨rfl, T', HO'.out, by rw [HD.out.1]; exact HN.out, HD.out.2, fun r q hr hq => HC.out r q hr hq, HK.out⟩

end Go.Proofs.Ytihkahojicafiaa

namespace Go.Proofs.Ytihkahojicafiaa
open Go.RowKit

set_option maxHeartbeats 1000000 in
theorem lHeldIntS (w : World) (P : Nat → Prop) (v : Value) (zs : List Int) (k : Int) (h : IntS w P v zs) (hz : ∀ q, q < zs.length → zs[q]?.getD 0 = k + (q : Int)) (hk0 : 0 ≤ k) (hk1 : k ≤ 1099513724928) (hl : zs.length ≤ 1048576) :
    Calls Try.prog 55 #[v, .int .i64 k] w fun e w' => e = .returned (.int .i64 (k + (zs.length : Nat))) ∧ w = w' := by
  obtain ⟨a, cap, rfl, _, hr⟩ := h
  have HR := Lib.hid hr
  have HZ := Lib.hid hz
  clear hr hz
  go_enter Try.func55, Try.ntmps55
  go_wp2_with fail
  go_loop [1, 5] (fun kk j => ∃ (q : Nat), q ≤ zs.length ∧ j = .int .i64 q ∧ kk = .int .i64 (k + (q : Int))) (fun _ j => zs.length - (intOf j).toNat)
  case atStart => exact ⟨0, Nat.zero_le _, rfl, by simp⟩
  case round =>
    obtain ⟨q, hq, rfl, rfl⟩ := hrel
    by_cases hlt : q < zs.length
    · obtain ⟨b, off, rfl, _, hc⟩ := HR.out q hlt
      rw [HZ.out q hlt] at hc
      have qi : (q : Int) < (zs.length : Int) := by omega
      have cw : IntKind.i64.wrap (k + (q : Int) + 1) = k + (q : Int) + 1 := by rw [IntKind.wrap_i64]; omega
      go_wp2_with fail
      go_round
      case rel => exact ⟨q + 1, by omega, by go_num, by push_cast; rw [← Int.add_assoc]⟩
      case measure => simp [intOf]; omega
    · have hqe : q = zs.length := by omega
      subst hqe
      go_wp2_with fail
      go_ret
      exact ⟨rfl, rfl⟩

set_option maxHeartbeats 1000000 in
theorem lHeldIntSS (w : World) (P : Nat → Prop) (v : Value) (T : List (List Int)) (h : IntSS w P v T) (hc : ∀ r q, r < T.length → q < wid T r → cel T r q = 1 + (offT T r : Int) + (q : Int)) (hl : T.length ≤ 1048576) (hw : ∀ r, wid T r ≤ 1048576) :
    Calls Try.prog 26 #[v, .int .i64 1] w fun e w' => e = .returned (.int .i64 (1 + (offT T T.length : Nat))) ∧ w = w' := by
  obtain ⟨a, cap, rfl, _, hr⟩ := h
  have HR := Lib.hid hr
  have HC := Lib.hid hc
  have HW := Lib.hid hw
  clear hr hc hw
  go_enter Try.func26, Try.ntmps26
  go_wp2_with fail
  go_loop [1, 5] (fun kk j => ∃ (i : Nat), i ≤ T.length ∧ j = .int .i64 i ∧ kk = .int .i64 (1 + (offT T i : Int))) (fun _ j => T.length - (intOf j).toNat)
  case atStart => exact ⟨0, Nat.zero_le _, rfl, by simp [offT]⟩
  case round =>
    obtain ⟨i, hi, rfl, rfl⟩ := hrel
    by_cases hlt : i < T.length
    · obtain ⟨rw0, hrw⟩ : ∃ r, T[i]?.getD [] = r := ⟨_, rfl⟩
      obtain ⟨b, off, ai, ci, rfl, _, hrow, hri⟩ := RowsIn.row (P := P) HR.out hlt rw0 hrw
      have ii : (i : Int) < (T.length : Int) := by omega
      have ho := offT_le HW.out i
      have hb : 1 + (offT T i : Int) ≤ 1099513724928 := by
        have : i * 1048576 ≤ 1048576 * 1048576 := Nat.mul_le_mul_right _ (by omega)
        omega
      have hb0 : (0 : Int) ≤ 1 + (offT T i : Int) := by omega
      have HI := Lib.hid hri
      have hwl : rw0.length ≤ 1048576 := by have := HW.out i; unfold wid at this; rw [hrw] at this; exact this
      have hzz : ∀ q, q < rw0.length → rw0[q]?.getD 0 = 1 + (offT T i : Int) + (q : Int) := fun q hq => by have := HC.out i q hlt (by unfold wid; rw [hrw]; exact hq); unfold cel at this; rw [hrw] at this; exact this
      have HS : Hid (1 + (offT T i : Int) + ((rw0.length : Nat) : Int) = 1 + (offT T (i + 1) : Int)) := by unfold Hid; rw [offT]; unfold wid; rw [hrw]; push_cast; omega
      have hneg : decide (1 + (offT T (i + 1) : Int) < 0) = false := by simp; omega
      clear hri ho hrw
      go_wp2_with fail
      with_reducible refine (lHeldIntS _ P _ _ (1 + (offT T i : Int)) HI.out hzz hb0 hb hwl).mono ?_
      rintro e w' ⟨rfl, rfl⟩
      rw [HS.out]
      generalize hm : 1 + (offT T (i + 1) : Int) = m at *
      go_wp2_with fail
      go_round
      case rel => exact ⟨i + 1, by omega, by go_num, by rw [hm]⟩
      case measure => simp [intOf]; omega
    · have hie : i = T.length := by omega
      subst hie
      go_wp2_with fail
      go_ret
      exact ⟨rfl, rfl⟩

set_option maxHeartbeats 400000 in
theorem lMarkNil (w : World) :
    Calls Try.prog 25 #[.slice none 0 0, .int .i64 1] w fun e w' => e = .returned (.int .i64 1) ∧ w = w' := by
  go_enter Try.func25, Try.ntmps25
  go_wp2_with fail
  go_loop [1, 5] (fun kk j => j = .int .i64 0 ∧ kk = .int .i64 1) (fun _ _ => 0)
  case atStart => exact ⟨rfl, rfl⟩
  case round =>
    obtain ⟨rfl, rfl⟩ := hrel
    go_wp2_with fail
    go_ret
    exact ⟨rfl, rfl⟩

end Go.Proofs.Ytihkahojicafiaa
