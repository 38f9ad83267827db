/- Contracts: MaskMany and MaskSmall, in the program and in the reference. -/
import Derived.Test.YtdlpcoafbmhjjaaMask
import Derived.Test.YtdlpcoafbmhjjaaDiffS
namespace Go.Proofs.Ytdlpcoafbmhjjaa
open Go.RowKit

/-- the mask of the small cells -/
def maskOf (t : List (List Int)) (k : Int) : List (List Bool) := t.map (fun r => r.map (smallC k))
/-- the number of flags that are set -/
def manyM (m : List (List Bool)) : Int := S m.length (fun i => S (m[i]?.getD []).length (fun j => if (m[i]?.getD [])[j]?.getD false = true then 1 else 0))
theorem maskOf_len (t : List (List Int)) (k : Int) : (maskOf t k).length = t.length := by simp [maskOf]
theorem maskOf_row (t : List (List Int)) (k : Int) (i : Nat) : (maskOf t k)[i]?.getD [] = (t[i]?.getD []).map (smallC k) := by
  unfold maskOf
  rw [List.getElem?_map]
  cases t[i]? <;> rfl
theorem manyM_mask (t : List (List Int)) (k : Int) : manyM (maskOf t k) = riskN t k := by
  unfold manyM riskN
  rw [maskOf_len]
  refine S_congr (fun i _ => ?_)
  rw [maskOf_row, List.length_map]
  refine S_congr (fun j hj => ?_)
  rw [List.getElem?_map]
  unfold wid at *
  unfold cel
  rw [List.getElem?_eq_getElem hj]
  rfl
theorem S_bd1 {f : Nat → Int} {c : Int} : ∀ n : Nat, (∀ j, j < n → 0 ≤ f j ∧ f j ≤ c) → 0 ≤ S n f ∧ S n f ≤ n * c
  | 0, _ => by simp [S]
  | n + 1, h => by
    have h1 := S_bd1 n (fun j hj => h j (by omega))
    have h2 := h n (by omega)
    have e : ((n + 1 : Nat) : Int) * c = n * c + c := by rw [Int.natCast_succ, Int.add_mul, Int.one_mul]
    rw [S, e]
    omega

set_option maxHeartbeats 1000000 in
theorem iMaskMany (w : World) (base g n cap : Nat) (m : List (List Bool)) (us : List Value) (h : OwnB w base g n cap m us) (hn : n ≤ 4) (hl : ∀ i, i < n → (m[i]?.getD []).length ≤ 4) :
    Calls Try.prog 27 #[.slice (some ⟨g, 0, none⟩) n cap] w fun e w' => e = .returned (.int .i64 (manyM m)) ∧ ∃ q, w' = w.drewN q := by
  have H := Lib.hid h; clear h
  obtain ⟨F, hF⟩ : ∃ F : Nat → Nat → Int, F = (fun i j => if (m[i]?.getD [])[j]?.getD false = true then 1 else 0) := ⟨_, rfl⟩
  obtain ⟨G, hG⟩ : ∃ G : Nat → Int, G = (fun i => S (m[i]?.getD []).length (F i)) := ⟨_, rfl⟩
  have HM : Hid (manyM m = S n G) := by unfold Hid manyM; rw [H.out.lenM, hG, hF]
  have HGk : Hid (∀ k, G k = S (m[k]?.getD []).length (F k)) := fun k => by rw [hG]
  have HF : Hid (∀ i j, F i j = if (m[i]?.getD [])[j]?.getD false = true then 1 else 0) := fun i j => by rw [hF]
  have HFb : Hid (∀ i j, 0 ≤ F i j ∧ F i j ≤ 1) := fun i j => by rw [HF.out]; split <;> omega
  have HGb : Hid (∀ k, k < n → 0 ≤ G k ∧ G k ≤ 4) := fun k hk => by
    have h1 := S_bd1 (f := F k) (c := 1) (m[k]?.getD []).length (fun j _ => HFb.out k j)
    have h2 := hl k hk
    rw [HGk.out]
    omega
  have HL := Lib.hid hl
  clear hF hG hl
  go_enter Try.func27, Try.ntmps27
  go_wp2_with fail
  go_loopw [3, 10] (fun s i wr => ∃ (k q : Nat), k ≤ n ∧ i = .int .i64 k ∧ s = .int .i64 (S k G) ∧ wr = w.drewN q) (fun _ i _ => n - (intOf i).toNat)
  case atStart => exact ⟨0, 0, Nat.zero_le _, rfl, rfl, rfl⟩
  case round =>
    obtain ⟨k, q0, hk, rfl, rfl, rfl⟩ := hrel
    have bG := S_bd1 (f := G) (c := 4) k (fun j hj => HGb.out j (by omega))
    by_cases hlt : k < n
    · obtain ⟨ai, ci, hu, hcs⟩ := H.out.row hlt
      have hc := H.out.cell hlt
      rw [hu] at hc
      have HCS := Lib.hid hcs
      obtain ⟨l, hll⟩ : ∃ l, (m[k]?.getD []).length = l := ⟨_, rfl⟩
      have hl4 : l ≤ 4 := by rw [← hll]; exact HL.out k hlt
      have HGS : Hid (S (k + 1) G = S k G + S l (F k)) := by unfold Hid; rw [S, HGk.out, hll]
      rw [hll] at hc HCS
      have kn : (k : Int) < (n : Int) := by omega
      clear hcs hu hll
      go_wp2_with fail
      go_loopw [3, 16] (fun s i wr => ∃ (p q : Nat), p ≤ l ∧ i = .int .i64 p ∧ s = .int .i64 (S k G + S p (F k)) ∧ wr = w.drewN q) (fun _ i _ => l - (intOf i).toNat)
      case atStart => exact ⟨0, q0, Nat.zero_le _, rfl, by simp [S], rfl⟩
      case round =>
        obtain ⟨p, q1, hp, rfl, rfl, rfl⟩ := hrel
        have bF := S_bd1 (f := F k) (c := 1) p (fun j _ => HFb.out k j)
        by_cases hlt2 : p < l
        · obtain ⟨bb, rfl, hcb⟩ := HCS.out p hlt2
          have pl : (p : Int) < (l : Int) := by omega
          have HFS : Hid (S (p + 1) (F k) = S p (F k) + F k p) := rfl
          have HFv := Lib.hid (HF.out k p)
          generalize S k G = s1 at *
          generalize S p (F k) = s2 at *
          have hw1 : IntKind.i64.wrap (s1 + s2 + 1) = s1 + s2 + 1 := by rw [IntKind.wrap_i64]; omega
          cases hbv : (m[k]?.getD [])[p]?.getD false with
          | true =>
            rw [hbv] at hcb HFv
            have HFE : Hid (F k p = 1) := by unfold Hid; rw [HFv.out]; rfl
            clear hbv HFv
            go_wp2_with fail
            go_roundw
            case rel => exact ⟨p + 1, q1, by omega, by go_num, by rw [HFS.out, HFE.out, Int.add_assoc], rfl⟩
            case measure => simp [intOf]; omega
          | false =>
            rw [hbv] at hcb HFv
            have HFE : Hid (F k p = 0) := by unfold Hid; rw [HFv.out]; rfl
            clear hbv HFv
            go_wp2_with fail
            go_roundw
            case rel => exact ⟨p + 1, q1, by omega, by go_num, by rw [HFS.out, HFE.out, Int.add_zero], rfl⟩
            case measure => simp [intOf]; omega
        · have e : Hid (p = l) := by unfold Hid; omega
          go_wp2_with fail
          go_roundw
          case rel => exact ⟨k + 1, q1, by omega, by go_num, by rw [HGS.out, e.out], rfl⟩
          case measure => simp [intOf]; omega
    · have e : Hid (k = n) := by unfold Hid; omega
      go_wp2_with fail
      go_ret
      exact ⟨ret_i (by rw [HM.out, e.out]), q0, rfl⟩

set_option maxHeartbeats 1000000 in
theorem sMaskMany (w : World) (base g n cap : Nat) (m : List (List Bool)) (us : List Value) (h : OwnB w base g n cap m us) (hn : n ≤ 4) (hl : ∀ i, i < n → (m[i]?.getD []).length ≤ 4) :
    Calls Try.prog 31 #[.slice (some ⟨g, 0, none⟩) n cap] w fun e w' => e = .returned (.int .i64 (manyM m)) ∧ ∃ q, w' = w.drewN q := by
  have H := Lib.hid h; clear h
  obtain ⟨F, hF⟩ : ∃ F : Nat → Nat → Int, F = (fun i j => if (m[i]?.getD [])[j]?.getD false = true then 1 else 0) := ⟨_, rfl⟩
  obtain ⟨G, hG⟩ : ∃ G : Nat → Int, G = (fun i => S (m[i]?.getD []).length (F i)) := ⟨_, rfl⟩
  have HM : Hid (manyM m = S n G) := by unfold Hid manyM; rw [H.out.lenM, hG, hF]
  have HGk : Hid (∀ k, G k = S (m[k]?.getD []).length (F k)) := fun k => by rw [hG]
  have HF : Hid (∀ i j, F i j = if (m[i]?.getD [])[j]?.getD false = true then 1 else 0) := fun i j => by rw [hF]
  have HFb : Hid (∀ i j, 0 ≤ F i j ∧ F i j ≤ 1) := fun i j => by rw [HF.out]; split <;> omega
  have HGb : Hid (∀ k, k < n → 0 ≤ G k ∧ G k ≤ 4) := fun k hk => by
    have h1 := S_bd1 (f := F k) (c := 1) (m[k]?.getD []).length (fun j _ => HFb.out k j)
    have h2 := hl k hk
    rw [HGk.out]
    omega
  have HL := Lib.hid hl
  clear hF hG hl
  go_enter Try.func31, Try.ntmps31
  go_wp2_with fail
  go_loopw [3, 4] (fun s i wr => ∃ (k q : Nat), k ≤ n ∧ i = .int .i64 k ∧ s = .int .i64 (S k G) ∧ wr = w.drewN q) (fun _ i _ => n - (intOf i).toNat)
  case atStart => exact ⟨0, 0, Nat.zero_le _, rfl, rfl, rfl⟩
  case round =>
    obtain ⟨k, q0, hk, rfl, rfl, rfl⟩ := hrel
    have bG := S_bd1 (f := G) (c := 4) k (fun j hj => HGb.out j (by omega))
    by_cases hlt : k < n
    · obtain ⟨ai, ci, hu, hcs⟩ := H.out.row hlt
      have hc := H.out.cell hlt
      rw [hu] at hc
      have HCS := Lib.hid hcs
      obtain ⟨l, hll⟩ : ∃ l, (m[k]?.getD []).length = l := ⟨_, rfl⟩
      have hl4 : l ≤ 4 := by rw [← hll]; exact HL.out k hlt
      have HGS : Hid (S (k + 1) G = S k G + S l (F k)) := by unfold Hid; rw [S, HGk.out, hll]
      rw [hll] at hc HCS
      have kn : (k : Int) < (n : Int) := by omega
      clear hcs hu hll
      go_wp2_with fail
      go_loopw [3, 5] (fun s i wr => ∃ (p q : Nat), p ≤ l ∧ i = .int .i64 p ∧ s = .int .i64 (S k G + S p (F k)) ∧ wr = w.drewN q) (fun _ i _ => l - (intOf i).toNat)
      case atStart => exact ⟨0, q0, Nat.zero_le _, rfl, by simp [S], rfl⟩
      case round =>
        obtain ⟨p, q1, hp, rfl, rfl, rfl⟩ := hrel
        have bF := S_bd1 (f := F k) (c := 1) p (fun j _ => HFb.out k j)
        by_cases hlt2 : p < l
        · obtain ⟨bb, rfl, hcb⟩ := HCS.out p hlt2
          have pl : (p : Int) < (l : Int) := by omega
          have HFS : Hid (S (p + 1) (F k) = S p (F k) + F k p) := rfl
          have HFv := Lib.hid (HF.out k p)
          generalize S k G = s1 at *
          generalize S p (F k) = s2 at *
          have hw1 : IntKind.i64.wrap (s1 + s2 + 1) = s1 + s2 + 1 := by rw [IntKind.wrap_i64]; omega
          cases hbv : (m[k]?.getD [])[p]?.getD false with
          | true =>
            rw [hbv] at hcb HFv
            have HFE : Hid (F k p = 1) := by unfold Hid; rw [HFv.out]; rfl
            clear hbv HFv
            go_wp2_with fail
            go_roundw
            case rel => exact ⟨p + 1, q1, by omega, by go_num, by rw [HFS.out, HFE.out, Int.add_assoc], rfl⟩
            case measure => simp [intOf]; omega
          | false =>
            rw [hbv] at hcb HFv
            have HFE : Hid (F k p = 0) := by unfold Hid; rw [HFv.out]; rfl
            clear hbv HFv
            go_wp2_with fail
            go_roundw
            case rel => exact ⟨p + 1, q1, by omega, by go_num, by rw [HFS.out, HFE.out, Int.add_zero], rfl⟩
            case measure => simp [intOf]; omega
        · have e : Hid (p = l) := by unfold Hid; omega
          go_wp2_with fail
          go_roundw
          case rel => exact ⟨k + 1, q1, by omega, by go_num, by rw [HGS.out, e.out], rfl⟩
          case measure => simp [intOf]; omega
    · have e : Hid (k = n) := by unfold Hid; omega
      go_wp2_with fail
      go_ret
      exact ⟨ret_i (by rw [HM.out, e.out]), q0, rfl⟩

end Go.Proofs.Ytdlpcoafbmhjjaa
