/- Contracts of small functions on slices of integers: total, the laws' copies and comparisons. -/
import Derived.Test.YtdlpcoafbmhjjaaMem
import Derived.Test.YtdlpcoafbmhjjaaKeyP
import Derived.Deep.OwnRows
namespace Go.Proofs.Ytdlpcoafbmhjjaa
open Go.RowKit

theorem Try.info_int : (Try.prog.info? 3).map (fun i => (i.zero, i.size, i.bytes)) = some (some (.int .i64 0), 1, 8) := by kernel_rfl

set_option maxHeartbeats 400000 in
theorem iTotal (w : World) (P : Nat → Prop) (v : Value) (zs : List Int) (h : IntS w P v zs) (hl : zs.length ≤ 4611686018427387904) :
    Calls Try.prog 37 #[v] w fun e w' => e = .returned (.int .i64 (tot zs)) ∧ w = w' := by
  obtain ⟨a, cap, rfl, _, hr⟩ := h
  have HR := Lib.hid hr; clear hr
  go_enter Try.func37, Try.ntmps37
  go_wp2_with fail
  go_loop [3, 5, 8] (fun s _ i => ∃ k : Nat, k ≤ zs.length ∧ s = .int .i64 (tot (zs.take k)) ∧ i = .int .i64 k) (fun _ _ i => zs.length - (intOf i).toNat)
  case atStart => exact ⟨0, Nat.zero_le _, rfl, rfl⟩
  case round =>
    obtain ⟨k, hk, rfl, rfl⟩ := hrel
    by_cases hlt : k < zs.length
    · obtain ⟨b, off, rfl, _, hc⟩ := HR.out k hlt
      have HS := take_snoc hlt
      generalize zs[k]?.getD 0 = z at hc HS
      replace HS := Lib.hid HS
      go_wp2_with fail
      go_round
      case rel => exact ⟨k + 1, by omega, by rw [HS.out, tot_snoc], by go_num⟩
      case measure => simp [intOf]; omega
    · have HT : Hid (zs.take k = zs) := by unfold Hid; rw [List.take_of_length_le (by omega)]
      go_wp2_with fail
      go_ret
      exact ⟨ret_i (by rw [HT.out]), rfl⟩

/-- a copy in new memory: an own row -/
def Copied (w : World) (zs : List Int) (e : Ending) (w' : World) : Prop :=
  ∃ v, e = .returned v ∧ w'.ownsRow w.heap.size 3 1 v zs.length (zs.map (Value.int .i64)) ∧ Below w.heap.size w w' ∧ v ≠ .slice none 0 0

/-- an own row out of 'rowIs' -/
theorem owns_of_rowIs {w : World} {b : Nat} {t : TypeId} {zs : List Int} {base : Nat} (h : w.rowIs b t zs.length (fun j => .int .i64 (zs[j]?.getD 0))) (hb : base ≤ b) (hm : zs.length ≤ maxLen) :
    w.ownsRow base t 1 (.slice (some ⟨b, 0, none⟩) zs.length zs.length) zs.length (zs.map (Value.int .i64)) := by
  obtain ⟨c, hc, hn, hv⟩ := h
  refine ⟨by simp, .inr ⟨b, zs.length, c, rfl, hb, hc, Nat.le_refl _, hm, by simp [hn], ?_⟩⟩
  apply List.ext_getElem?
  intro i
  by_cases hi : i < zs.length
  · rw [List.getElem?_take, if_pos (by omega), Array.getElem?_toList, hv i hi, List.getElem?_map]; simp [List.getElem?_eq_getElem hi]
  · rw [List.getElem?_eq_none (by simp; omega), List.getElem?_eq_none (by simp; omega)]

end Go.Proofs.Ytdlpcoafbmhjjaa
