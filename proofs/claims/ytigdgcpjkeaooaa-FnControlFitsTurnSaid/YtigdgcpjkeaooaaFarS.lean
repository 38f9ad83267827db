/- Contract of the reference's ControlFar. -/
import Derived.Test.YtigdgcpjkeaooaaFar
namespace Go.Proofs.Ytigdgcpjkeaooaa
open Go.RowKit Go.Shelf

theorem wrap_neg (x : Int) : wrap64 (-(wrap64 x)) = wrap64 (-x) := by
  unfold wrap64; omega
theorem absW_eq (a b : Int) : absW a b = max (wrap64 (a - b)) (wrap64 (b - a)) := by
  unfold absW; rw [wrap_neg, show -(a - b) = b - a by omega]

set_option maxHeartbeats 1000000 in
theorem sControlFar (w : World) (P Q : Nat → Prop) (va vb : Value) (a b : List (List Int)) (ha : IntSS w P va a) (hb : IntSS w Q vb b) (la : lensT a) (lb : lensT b) :
    Calls Try.prog 39 #[va, vb] w fun e w' => e = .returned (.int .i64 (farOf a b)) ∧ ∃ n, w' = w.drewN n := by
  have HA := Lib.hid ha
  have HB := Lib.hid hb
  obtain ⟨xa, ca, rfl, _, _⟩ := ha
  obtain ⟨xb, cb, rfl, _, _⟩ := hb
  have la1 := la.1
  have lb1 := lb.1
  have LA := Lib.hid la.2
  have LB := Lib.hid lb.2
  clear la lb
  by_cases hl : a.length = b.length
  · have c1 : ((a.length : Int) != (b.length : Int)) = false := by simp; omega
    have HL := Lib.hid hl
    clear hl
    go_enter Try.func39, Try.ntmps39
    go_wp2_with fail
    go_loopw [5, 6] (fun s i wr => ∃ (k n : Nat), k ≤ a.length ∧ i = .int .i64 k ∧ s = .int .i64 (farL a b (cellsTo a k)) ∧ Hid (∀ j, j < k → wid a j = wid b j) ∧ wr = w.drewN n) (fun _ i _ => a.length - (intOf i).toNat)
    case atStart => exact ⟨0, 0, Nat.zero_le _, rfl, rfl, fun j hj => by omega, rfl⟩
    case round =>
      obtain ⟨k, n, hk, rfl, rfl, hall, rfl⟩ := hrel
      by_cases hlt : k < a.length
      · have hltb : k < b.length := by have := HL.out; omega
        obtain ⟨_, _, ea, _, ra⟩ := HA.out
        cases ea
        obtain ⟨_, _, eb, _, rb⟩ := HB.out
        cases eb
        obtain ⟨b1, o1, a1, c1', rfl, _, hc1, hr1⟩ := ra.rowW hlt
        obtain ⟨b2, o2, a2, c2', rfl, _, hc2, hr2⟩ := rb.rowW hltb
        have HR1 := Lib.hid hr1
        have HR2 := Lib.hid hr2
        clear ra rb hr1 hr2
        have hkb : (k : Int) < (b.length : Int) := by omega
        have hka : (k : Int) < (a.length : Int) := by omega
        have l1 := LA.out k
        have l2 := LB.out k
        by_cases e : wid a k = wid b k
        · have HN : Hid (∀ j, j < k + 1 → wid a j = wid b j) := by
            intro j hj
            by_cases ej : j = k
            · subst ej; exact e
            · exact hall.out j (by omega)
          have ce : ((wid a k : Int) != (wid b k : Int)) = false := by simp; omega
          have HE := Lib.hid e
          clear e
          go_wp2_with fail
          go_quiet (fail)
          go_wp2_with fail
          go_loopw [5, 7] (fun s j wr => ∃ (q n : Nat), q ≤ wid a k ∧ j = .int .i64 q ∧ s = .int .i64 (farL a b (cellsTo a k ++ (List.range q).map (fun j => (k, j)))) ∧ wr = w.drewN n) (fun _ j _ => wid a k - (intOf j).toNat)
          case atStart => exact ⟨0, n + nq, Nat.zero_le _, rfl, by simp, by rw [World.drewN_drewN]⟩
          case round =>
            obtain ⟨q, n, hq, rfl, rfl, rfl⟩ := hrel
            by_cases hqlt : q < wid a k
            · obtain ⟨b3, o3, rfl, _, hc3⟩ := HR1.out q hqlt
              obtain ⟨b4, o4, rfl, _, hc4⟩ := HR2.out q (by have := HE.out; exact (show q < wid b k by omega))
              have HSN : Hid (farL a b (cellsTo a k ++ (List.range (q + 1)).map (fun j => (k, j))) = wrap64 (farL a b (cellsTo a k ++ (List.range q).map (fun j => (k, j))) + absW (cel a k q) (cel b k q))) := by
                unfold Hid; rw [row_succ, ← List.append_assoc, farL_snoc]
              have hca : (a[k]?.getD [])[q]?.getD 0 = cel a k q := rfl
              have hcb : (b[k]?.getD [])[q]?.getD 0 = cel b k q := rfl
              rw [hca] at hc3
              rw [hcb] at hc4
              clear hca hcb
              generalize farL a b (cellsTo a k ++ (List.range q).map (fun j => (k, j))) = f0 at *
              generalize cel a k q = za at *
              generalize cel b k q = zb at *
              have hqa : (q : Int) < (wid a k : Int) := by omega
              have hqb : (q : Int) < (wid b k : Int) := by have := HE.out; omega
              have HAB := Lib.hid (absW_eq za zb)
              go_wp2_with fail
              go_quiet (fail)
              go_wp2_with fail
              all_goals
                go_roundw
                case rel => exact ⟨q + 1, _, by omega, by go_num, by rw [HSN.out, HAB.out]; first | rfl | (congr 2; omega), rfl⟩
                case measure => simp [intOf]; omega
            · have HT : Hid (cellsTo a k ++ (List.range q).map (fun j => (k, j)) = cellsTo a (k + 1)) := by unfold Hid; rw [cellsTo_succ, show q = wid a k by omega]
              go_wp2_with fail
              go_roundw
              case rel => exact ⟨k + 1, n, by omega, by go_num, by rw [HT.out], HN, rfl⟩
              case measure => simp [intOf]; omega
        · have HB : Hid (farOf a b = -1) := if_neg (fun hh => e (hh.2 k hlt))
          have ce : ((wid a k : Int) != (wid b k : Int)) = true := by simp; omega
          clear e
          go_wp2_with fail
          go_quiet (fail)
          go_wp2_with fail
          go_ret
          exact ⟨ret_i HB.out.symm, n + nq, by rw [World.drewN_drewN]⟩
      · have HF : Hid (farL a b (cellsTo a k) = farOf a b) := by
          unfold Hid farOf; rw [if_pos ⟨HL.out, fun i hi => hall.out i (by omega)⟩, show k = a.length by omega]; rfl
        go_wp2_with fail
        go_ret
        exact ⟨ret_i HF.out, n, rfl⟩
  · have c1 : ((a.length : Int) != (b.length : Int)) = true := by simp; omega
    have HB : Hid (farOf a b = -1) := if_neg (fun hh => hl hh.1)
    clear hl
    go_enter Try.func39, Try.ntmps39
    go_wp2_with fail
    go_ret
    exact ⟨ret_i HB.out.symm, 0, rfl⟩

end Go.Proofs.Ytigdgcpjkeaooaa
