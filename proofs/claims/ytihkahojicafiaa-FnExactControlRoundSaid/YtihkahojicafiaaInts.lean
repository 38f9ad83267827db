/- Contracts of small functions on slices of integers: total, the laws' copies and comparisons. -/
import Derived.Test.YtihkahojicafiaaMem
import Derived.Test.YtihkahojicafiaaKeyP
import Derived.Deep.OwnRows
namespace Go.Proofs.Ytihkahojicafiaa
open Go.RowKit

theorem Try.info_int : (Try.prog.info? 3).map (fun i => (i.zero, i.size, i.bytes)) = some (some (.int .i64 0), 1, 8) := by kernel_rfl

set_option maxHeartbeats 400000 in
theorem iTotal (w : World) (P : Nat → Prop) (v : Value) (zs : List Int) (h : IntS w P v zs) (hl : zs.length ≤ 4611686018427387904) :
    Calls Try.prog 46 #[v] w fun e w' => e = .returned (.int .i64 (tot zs)) ∧ w = w' := by
  obtain ⟨a, cap, rfl, _, hr⟩ := h
  have HR := Lib.hid hr; clear hr
  go_enter Try.func46, Try.ntmps46
  go_wp2_with fail
  go_loop [3, 5, 8] (fun s _ i => ∃ k : Nat, k ≤ zs.length ∧ s = .int .i64 (tot (zs.take k)) ∧ i = .int .i64 k) (fun _ _ i => zs.length - (intOf i).toNat)
  case atStart => exact ⟨0, Nat.zero_le _, rfl, rfl⟩
  case round =>
    obtain ⟨k, hk, rfl, rfl⟩ := hrel
    by_cases hlt : k < zs.length
    · obtain ⟨b, off, rfl, _, hc⟩ := HR.out k hlt
      have HS := take_snoc hlt
      generalize zs[k]?.getD 0 = z at hc HS
      replace HS := Lib.hid HS
      go_wp2_with fail
      go_round
      case rel => exact ⟨k + 1, by omega, by rw [HS.out, tot_snoc], by go_num⟩
      case measure => simp [intOf]; omega
    · have HT : Hid (zs.take k = zs) := by unfold Hid; rw [List.take_of_length_le (by omega)]
      go_wp2_with fail
      go_ret
      exact ⟨ret_i (by rw [HT.out]), rfl⟩

/-- a copy in new memory: an own row -/
def Copied (w : World) (zs : List Int) (e : Ending) (w' : World) : Prop :=
  ∃ v, e = .returned v ∧ w'.ownsRow w.heap.size 3 1 v zs.length (zs.map (Value.int .i64)) ∧ Below w.heap.size w w' ∧ v ≠ .slice none 0 0

/-- an own row out of 'rowIs' -/
theorem owns_of_rowIs {w : World} {b : Nat} {t : TypeId} {zs : List Int} {base : Nat} (h : w.rowIs b t zs.length (fun j => .int .i64 (zs[j]?.getD 0))) (hb : base ≤ b) (hm : zs.length ≤ maxLen) :
    w.ownsRow base t 1 (.slice (some ⟨b, 0, none⟩) zs.length zs.length) zs.length (zs.map (Value.int .i64)) := by
  obtain ⟨c, hc, hn, hv⟩ := h
  refine ⟨by simp, .inr ⟨b, zs.length, c, rfl, hb, hc, Nat.le_refl _, hm, by simp [hn], ?_⟩⟩
  apply List.ext_getElem?
  intro i
  by_cases hi : i < zs.length
  · rw [List.getElem?_take, if_pos (by omega), Array.getElem?_toList, hv i hi, List.getElem?_map]; simp [List.getElem?_eq_getElem hi]
  · rw [List.getElem?_eq_none (by simp; omega), List.getElem?_eq_none (by simp; omega)]

set_option maxHeartbeats 400000 in
theorem lToIntS (w : World) (P : Nat → Prop) (v : Value) (zs : List Int) (h : IntS w P v zs) (hl : zs.length ≤ 1048576) :
    Calls Try.prog 52 #[v] w (Copied w zs) := by
  obtain ⟨a, cap, rfl, _, hr⟩ := h
  have HR := Lib.hid hr; clear hr
  have hmk := run_make_row' (P := Try.prog) 30 3 (.int .i64 0) 8 Try.underlying30 Try.info_int rfl .i64 .i64 zs.length (by omega) (by omega)
  go_enter Try.func52, Try.ntmps52
  go_wp2_with fail
  go_loopw [4] (fun i wr => ∃ k : Nat, k ≤ zs.length ∧ i = .int .i64 k ∧ wr.rowIs w.heap.size 3 zs.length (fun j => .int .i64 (if j < k then zs[j]?.getD 0 else 0)) ∧ Below w.heap.size w wr) (fun i _ => zs.length - (intOf i).toNat)
  case atStart => exact ⟨0, Nat.zero_le _, rfl, (World.rowIs_made w (.int .i64 0) zs.length 3).congr (fun _ _ => by simp), (Below.refl _ _).alloc (Nat.le_refl _) _⟩
  case round =>
    obtain ⟨k, hk, rfl, hrow, hbel⟩ := hrel
    by_cases hlt : k < zs.length
    · obtain ⟨b, off, rfl, _, hc⟩ := HR.out k hlt
      have hbl := World.block_lt_of_cell? _ _ hc
      have hc' := (hbel.cell (p := ⟨b, off + k, none⟩) hbl).trans hc
      have hd := hrow.cell hlt
      have hf := hrow.frozen k
      have hnx := hrow.set k (.int .i64 (zs[k]?.getD 0))
      have hnx2 : Hid ((wr.setCell ⟨w.heap.size, k, none⟩ (.int .i64 (zs[k]?.getD 0))).rowIs w.heap.size 3 zs.length (fun j => .int .i64 (if j < k + 1 then zs[j]?.getD 0 else 0))) := by
        refine hnx.congr (fun i hi => ?_)
        by_cases e : i = k
        · subst e; simp
        · simp only [if_neg e]
          by_cases e2 : i < k
          · rw [if_pos e2, if_pos (by omega)]
          · rw [if_neg e2, if_neg (by omega)]
      have hb2 := Lib.hid (hbel.setCell (p := ⟨w.heap.size, k, none⟩) (Nat.le_refl _) (.int .i64 (zs[k]?.getD 0)))
      clear hnx hrow hbel hc
      generalize zs[k]?.getD 0 = z at hc' hnx2 hb2
      generalize (if k < k then zs[k]?.getD 0 else 0 : Int) = y at hd
      go_wp2_with fail
      go_roundw
      case rel => exact ⟨k + 1, by omega, by go_num, hnx2.out, hb2.out⟩
      case measure => simp [intOf]; omega
    · have hfin : Hid (wr.rowIs w.heap.size 3 zs.length (fun j => .int .i64 (zs[j]?.getD 0))) := hrow.congr (fun i hi => by simp only [if_pos (show i < k by omega)])
      clear hrow
      go_wp2_with fail
      go_ret
      exact ⟨_, rfl, owns_of_rowIs hfin.out (Nat.le_refl _) (by unfold maxLen; omega), hbel, by simp⟩

set_option maxHeartbeats 400000 in
theorem lEqIntS (w : World) (P Q : Nat → Prop) (v u : Value) (zs : List Int) (h : IntS w P v zs) (h2 : IntS w Q u zs) (hl : zs.length ≤ 4611686018427387904) :
    Calls Try.prog 53 #[v, u] w fun e w' => e = .returned (.bool true) ∧ ∃ n, w' = w.drewN n := by
  obtain ⟨a, cap, rfl, _, hr⟩ := h
  obtain ⟨a2, cap2, rfl, _, hr2⟩ := h2
  have HR := Lib.hid hr; clear hr
  have HR2 := Lib.hid hr2; clear hr2
  go_enter Try.func53, Try.ntmps53
  go_wp2_with fail
  go_loopw [5] (fun i wr => ∃ k : Nat, k ≤ zs.length ∧ i = .int .i64 k ∧ ∃ n, wr = w.drewN n) (fun i _ => zs.length - (intOf i).toNat)
  case atStart => exact ⟨0, Nat.zero_le _, rfl, 0, rfl⟩
  case round =>
    obtain ⟨k, hk, rfl, n, rfl⟩ := hrel
    by_cases hlt : k < zs.length
    · obtain ⟨b, off, rfl, _, hc⟩ := HR.out k hlt
      obtain ⟨b2, off2, rfl, _, hc2⟩ := HR2.out k hlt
      generalize zs[k]?.getD 0 = z at hc hc2
      have hki : (k : Int) < (zs.length : Int) := by omega
      go_wp2_with fail
      go_quiet (fail)
      go_wp2_with fail
      go_roundw
      case rel => exact ⟨k + 1, by omega, by go_num, _, rfl⟩
      case measure => simp [intOf]; omega
    · go_wp2_with fail
      go_ret
      exact ⟨rfl, n, rfl⟩

end Go.Proofs.Ytihkahojicafiaa
