/- The drawing of a small table and a base. (Printed by wip/tools/mkDrawC.py.) -/
import Derived.Test.YtigdgcpjkeaooaaDrawT2
import Derived.Test.YtigdgcpjkeaooaaDraw3
import Derived.Test.YtigdgcpjkeaooaaRegS
import Derived.Test.YtigdgcpjkeaooaaSpecV
namespace Go.Proofs.Ytigdgcpjkeaooaa
open Go.RowKit

theorem OwnU.rowCell {w : World} {base g n cap : Nat} {T : List (List Int)} {us : List Value} (h : OwnU w base (.slice (some ⟨g, 0, none⟩) n cap) T us) {i : Nat} (hi : i < T.length) {u : Value} (hu : us[i]? = some u) : w.cell? ⟨g, i, none⟩ = some u := by
  obtain ⟨gi, ci, hu2, hc, _⟩ := h.row hi
  rw [hu] at hu2
  cases hu2
  exact hc

/-- the state of the region in which a cell is rounded by chance: d1: the lot has been drawn; d2: the cell has been written -/
def CtlG (w : World) (B : Nat) (a1 : Option Addr) (len cap : Nat) (zs : List Int) (p1 : Int) (base : Nat) (v : Value) (t : List (List Int)) (us : List Value) (k q : Nat) (d1 d2 : Bool) (W : World) : Prop :=
  ∃ p' T, (d1 = false → p' = p1) ∧ p1 ≤ p' ∧ p' ≤ p1 + 1 ∧ Rd W B a1 len cap zs p' ∧ w.grownBy W (some B) ∧ OwnU W base v T us ∧ T.length = t.length ∧ (d2 = false → T = t) ∧ (d2 = true → ∃ z, 0 ≤ z ∧ z ≤ 99 ∧ T = setT t k q z)

/-- the values of its operations -/
def CtlF (B g n cp k q gi wk ci : Nat) (c : Int) : Nat → Value → Prop
  | 0, v => v = .slice (some ⟨g, 0, none⟩) n cp
  | 1, v => v = .int .i64 (k : Int)
  | 2, v => v = .pointer (some ⟨g, k, none⟩)
  | 3, v => v = .slice (some ⟨gi, 0, none⟩) wk ci
  | 4, v => v = .int .i64 (q : Int)
  | 5, v => v = .slice (some ⟨g, 0, none⟩) n cp
  | 6, v => v = .int .i64 (k : Int)
  | 7, v => v = .pointer (some ⟨g, k, none⟩)
  | 8, v => v = .slice (some ⟨gi, 0, none⟩) wk ci
  | 9, v => v = .int .i64 (q : Int)
  | 10, v => v = .pointer (some ⟨gi, q, none⟩)
  | 11, v => v = .int .i64 c
  | 12, v => v = .slice (some ⟨g, 0, none⟩) n cp
  | 13, v => v = .int .i64 (k : Int)
  | 14, v => v = .pointer (some ⟨g, k, none⟩)
  | 15, v => v = .slice (some ⟨gi, 0, none⟩) wk ci
  | 16, v => v = .int .i64 (q : Int)
  | 17, v => v = .pointer (some ⟨gi, q, none⟩)
  | 18, v => v = .int .i64 c
  | 19, v => v = .int .i64 (c % 3)
  | 20, v => v = .pointer (some ⟨B, 0, none⟩)
  | 21, v => ∃ x : Nat, v = .int .i64 (x : Int) ∧ x ≤ 1
  | 22, v => ∃ y, v = .int .i64 y ∧ 0 ≤ y ∧ y ≤ c
  | 23, v => ∃ z, v = .int .i64 z ∧ 0 ≤ z ∧ z ≤ 99
  | 24, v => v = .pointer (some ⟨gi, q, none⟩)
  | _, _ => True

theorem tbl_set {t : List (List Int)} (h : tblOk t) {i j : Nat} (hi : i < t.length) (hj : j < wid t i) {x : Int} (h1 : 0 ≤ x) (h2 : x ≤ 99) : tblOk (setT t i j x) := by
  obtain ⟨a1, a2, a3, a4, a5⟩ := h
  refine ⟨by rw [setT_len]; exact a1, by rw [setT_len]; exact a2, by rw [setT_wid]; exact a3, by rw [setT_wid]; exact a4, fun r hr => ?_⟩
  rw [setT_len] at hr
  rw [setT_wid, setT_wid]
  refine ⟨(a5 r hr).1, fun q hq => ?_⟩
  rw [setT_cel hi hj]
  split
  · exact ⟨h1, h2⟩
  · exact (a5 r hr).2 q hq

/-- what is drawn: a table and a base; the reader moved on; nothing else written -/
def DrewCtl (w : World) (B : Nat) (a : Option Addr) (len cap : Nat) (zs : List Int) (p : Int) (e : Ending) (w' : World) : Prop :=
  ∃ v t us b p', e = .returned (.tuple #[v, .int .i64 b]) ∧ OwnU w' w.heap.size v t us ∧ TblD t ∧ 1 ≤ b ∧ b ≤ 21 ∧ p ≤ p' ∧ p' ≤ p + 100 ∧ Rd w' B a len cap zs p' ∧ w.grownBy w' (some B)

theorem lensD {t : List (List Int)} (h : TblD t) : lensT t := by
  refine ⟨by have := h.1; omega, fun i => ?_⟩
  by_cases hi : i < t.length
  · have := (h.2 i hi).2.1; omega
  · unfold wid; rw [List.getElem?_eq_none (by omega)]; simp
theorem tblOk.tblD {t : List (List Int)} (h : tblOk t) : TblD t :=
  ⟨h.2.1, fun i hi => ⟨by rw [(h.2.2.2.2 i hi).1]; exact h.2.2.1, by rw [(h.2.2.2.2 i hi).1]; exact h.2.2.2.1, fun j hj => by have := (h.2.2.2.2 i hi).2 j (by rw [← (h.2.2.2.2 i hi).1]; exact hj); omega⟩⟩

set_option maxRecDepth 100000 in
set_option maxHeartbeats 4000000 in
theorem sControlD (w : World) (B : Nat) (a1 : Option Addr) (len cap : Nat) (zs : List Int) (p : Int) (h : Rd w B a1 len cap zs p) (hp : p < 998000) :
    Calls Try.prog 15 #[.pointer (some ⟨B, 0, none⟩)] w (DrewCtl w B a1 len cap zs p) := by
  have hB := h.lt
  go_enter Try.func15, Try.ntmps15
  go_wp2_with fail
  refine (sTable _ B a1 len cap zs p 25 h (by omega) (by omega)).mono ?_
  rintro e w1 ⟨v, t, us, p1, rfl, ho, hd, hp1, hp1', r1, g1⟩
  obtain ⟨g, cp, rfl, hgb, hgs, hcp1, hcp2⟩ := ho.form
  have HO := Lib.hid ho
  have HD := Lib.hid hd
  have LD := Lib.hid (lensD hd)
  have HG1 := Lib.hid g1
  have R1 := Lib.hid r1
  have hs1 := g1.size
  clear ho hd g1 r1
  go_wp2_with fail
  refine (pick_use _ B a1 len cap zs p1 2 R1.out (by omega)).mono ?_
  rintro e w2 ⟨m, rfl, hm, r2, g2⟩
  have HO2 := Lib.hid (HO.out.keptB g2 (fun j e hj => by cases e; have := (HO.out.blk hj).1; omega))
  have HG2 := Lib.hid (grow_trans HG1.out g2)
  have R2 := Lib.hid r2
  have hs2 := g2.size
  clear HO HG1 R1 r2 g2
  have fin : ∀ (W : World) (pp : Int), p ≤ pp → pp ≤ p + 90 → Hid (OwnU W w.heap.size (.slice (some ⟨g, 0, none⟩) t.length cp) t us) → Hid (w.grownBy W (some B)) → Hid (Rd W B a1 len cap zs pp) →
      Calls Try.prog 36 #[.pointer (some ⟨B, 0, none⟩)] W fun e W' => ∃ b pp', e = .returned (.int .i64 b) ∧ 1 ≤ b ∧ b ≤ 21 ∧ pp ≤ pp' ∧ pp' ≤ pp + 2 ∧ Hid (Rd W' B a1 len cap zs pp') ∧ Hid (w.grownBy W' (some B)) ∧ Hid (OwnU W' w.heap.size (.slice (some ⟨g, 0, none⟩) t.length cp) t us) := by
    intro W pp q1 q2 q3 q4 q5
    refine (base_any W B a1 len cap zs pp q5.out (by omega)).mono ?_
    rintro e W' ⟨b, pp', rfl, b1, b2, b3, b4, b5, b6⟩
    exact ⟨b, pp', rfl, b1, b2, b3, b4, b5, grow_trans q4.out b6, q3.out.keptB b6 (fun j e hj => by cases e; have := (q3.out.blk hj).1; omega)⟩
  by_cases hm0 : m = 0
  · subst hm0
    go_wp2_with fail
    refine (sTableValid _ _ _ t HO2.out.ints LD.out).mono ?_
    rintro e w3 ⟨rfl, n3, rfl⟩
    by_cases hok : tblOk t
    · have D : Hid (decide (tblOk t) = true) := by unfold Hid; simpa using hok
      rw [D.out]
      have hl1 := hok.1
      have hl4 := hok.2.1
      have HK := Lib.hid hok
      clear hok D fin
      go_wp2_with fail
      go_loopw [5] (fun i wr => ∃ (k : Nat) (t' : List (List Int)) (pp : Int), k ≤ t.length ∧ i = .int .i64 k ∧ Hid (OwnU wr w.heap.size (.slice (some ⟨g, 0, none⟩) t.length cp) t' us) ∧ Hid (tblOk t') ∧ Hid (same t t') ∧ p1 ≤ pp ∧ pp ≤ p1 + 1 + 4 * k ∧ Hid (Rd wr B a1 len cap zs pp) ∧ Hid (w.grownBy wr (some B)) ∧ w.heap.size ≤ wr.heap.size) (fun i _ => t.length - (intOf i).toNat)
      case atStart => exact ⟨0, t, p1 + 1, Nat.zero_le _, rfl, HO2.out.drewN n3, HK, same_refl t, by omega, by omega, R2.out.drewN n3, grow_drewN HG2.out n3, by change w.heap.size ≤ w2.heap.size; omega⟩
      case round =>
        obtain ⟨k, t', pp, hk, rfl, ho, hto, hsm, hq1, hq2, hrd, hgr, hsz⟩ := hrel
        by_cases hlt : k < t.length
        · have hlt' : k < t'.length := by have := hsm.out.1; omega
          obtain ⟨gi, ci, hu, hrow0, hgi1, _, hgi3, _, _, _⟩ := ho.out.rowW hlt'
          have hwk : wid t' k ≤ 4 := by have := (hto.out.2.2.2.2 k hlt').1; have := hto.out.2.2.2.1; omega
          have HU := Lib.hid hu
          obtain ⟨wk, hwke⟩ : ∃ wk, wid t' k = wk := ⟨_, rfl⟩
          rw [hwke] at hu hrow0 hwk HU
          have HWK : Hid (wid t k = wk) := by unfold Hid; rw [hsm.out.2 k hlt, hwke]
          have kn : (k : Int) < (t.length : Int) := by omega
          clear hu hwke
          go_wp2_with fail
          go_loopw [6] (fun j wr => ∃ (q : Nat) (t' : List (List Int)) (pp : Int), q ≤ wk ∧ j = .int .i64 q ∧ Hid (OwnU wr w.heap.size (.slice (some ⟨g, 0, none⟩) t.length cp) t' us) ∧ Hid (tblOk t') ∧ Hid (same t t') ∧ p1 ≤ pp ∧ pp ≤ p1 + 1 + 4 * k + q ∧ Hid (Rd wr B a1 len cap zs pp) ∧ Hid (w.grownBy wr (some B)) ∧ w.heap.size ≤ wr.heap.size) (fun j _ => wk - (intOf j).toNat)
          case atStart => exact ⟨0, t', pp, Nat.zero_le _, rfl, ho, hto, hsm, by omega, by omega, hrd, hgr, hsz⟩
          case round =>
            clear ho hto hsm hrd hgr hsz hrow0 hq1 hq2
            obtain ⟨q, t', pp, hq, rfl, ho, hto, hsm, hq1, hq2, hrd, hgr, hsz⟩ := hrel
            have hlt' : k < t'.length := by have := hsm.out.1; omega
            have hw' : wid t' k = wk := by rw [← hsm.out.2 k hlt]; exact HWK.out
            have hrow0 := ho.out.rowCell hlt' HU.out
            by_cases hqlt : q < wk
            · obtain ⟨c, hce⟩ : ∃ c, cel t' k q = c := ⟨_, rfl⟩
              have hcb : 0 ≤ c ∧ c ≤ 99 := by rw [← hce]; exact (hto.out.2.2.2.2 k hlt').2 q (by rw [← (hto.out.2.2.2.2 k hlt').1]; omega)
              have HCE := Lib.hid hce
              clear hce
              go_wp2_with fail
              refine region_st (by kernel_rfl) (by kernel_rfl) (by kernel_rfl) (fun bt W => CtlG w B a1 len cap zs pp w.heap.size (.slice (some ⟨g, 0, none⟩) t.length cp) t' us k q (bt 21) (bt 25) W) (CtlF B g t.length cp k q gi wk ci c) ?start ?step ?fin
              case start => exact ⟨pp, t', fun _ => rfl, by omega, by omega, hrd.out.drew, grow_drew hgr.out, ho.out.drewN 1, rfl, fun _ => rfl, fun h => by cases h⟩
              case step =>
                intro a W bt hG hf i o ho hni hcl hdep
                have e0 : a.eval (.tmp 0) = .pointer (some ⟨B, 0, none⟩) := hf 0 (by kernel_rfl)
                have e4 : a.eval (.tmp 4) = .slice (some ⟨g, 0, none⟩) t.length cp := hf 4 (by kernel_rfl)
                have e5 : a.eval (.tmp 5) = .int .i64 (k : Int) := hf 5 (by kernel_rfl)
                have e6 : a.eval (.tmp 6) = .int .i64 (q : Int) := hf 6 (by kernel_rfl)
                obtain ⟨p', T, hp1, hp2, hp3, hrd, hgr, hou, hlen, hT0, hT1⟩ := id hG
                have hrow : W.cell? ⟨g, k, none⟩ = some (.slice (some ⟨gi, 0, none⟩) wk ci) := hou.rowCell (by omega) HU.out
                have hcel : bt 25 = false → W.cell? ⟨gi, q, none⟩ = some (.int .i64 c) := fun hb => by
                  have e := hT0 hb
                  subst e
                  have := (hou.at hlt' HU.out (j := q) (by have := hw'; unfold wid at this; omega)).1
                  rw [this]
                  exact congrArg (fun z => some (Value.int .i64 z)) HCE.out
                have hfrz : W.frozen? ⟨gi, q, none⟩ = false := by
                  have := hou.rows k (by omega)
                  rw [HU.out] at this
                  exact OwnI.frozen this q
                have hu := HU.out
                have qw : (q : Int) < (wk : Int) := by omega
                have mm : c.tmod 3 = c % 3 := Int.tmod_eq_emod_of_nonneg hcb.1
                have hG2 : ∀ j, j ≠ 21 → j ≠ 25 → CtlG w B a1 len cap zs pp w.heap.size (.slice (some ⟨g, 0, none⟩) t.length cp) t' us k q (if 21 = j then true else bt 21) (if 25 = j then true else bt 25) W := fun j h1 h2 => by
                  rw [if_neg (Ne.symm h1), if_neg (Ne.symm h2)]; exact hG
                rcases i with _ | i
                · cases ho
                  exact ⟨rfl, _, rfl, (hG2 0 (by decide) (by decide)), e4⟩
                rcases i with _ | i
                · cases ho
                  exact ⟨rfl, _, rfl, (hG2 1 (by decide) (by decide)), e5⟩
                rcases i with _ | i
                · cases ho
                  have h1 : a.eval (.tmp 31) = .slice (some ⟨g, 0, none⟩) t.length cp := hdep 0 (by kernel_rfl) _ rfl
                  have h2 : a.eval (.tmp 32) = .int .i64 (k : Int) := hdep 1 (by kernel_rfl) _ rfl
                  exact ⟨rfl, op_val (v := .pointer (some ⟨g, k, none⟩)) (w' := W) (by simp [go_sem, evT h1, evT h2, kn]) ⟨_, rfl, (hG2 2 (by decide) (by decide)), rfl⟩⟩
                rcases i with _ | i
                · cases ho
                  have h1 : a.eval (.tmp 33) = .pointer (some ⟨g, k, none⟩) := hdep 2 (by kernel_rfl) _ rfl
                  exact ⟨rfl, op_val (v := .slice (some ⟨gi, 0, none⟩) wk ci) (w' := W) (by simp [go_sem, evT h1, hrow]) ⟨_, rfl, (hG2 3 (by decide) (by decide)), rfl⟩⟩
                rcases i with _ | i
                · cases ho
                  exact ⟨rfl, _, rfl, (hG2 4 (by decide) (by decide)), e6⟩
                rcases i with _ | i
                · cases ho
                  exact ⟨rfl, _, rfl, (hG2 5 (by decide) (by decide)), e4⟩
                rcases i with _ | i
                · cases ho
                  exact ⟨rfl, _, rfl, (hG2 6 (by decide) (by decide)), e5⟩
                rcases i with _ | i
                · cases ho
                  have h1 : a.eval (.tmp 36) = .slice (some ⟨g, 0, none⟩) t.length cp := hdep 5 (by kernel_rfl) _ rfl
                  have h2 : a.eval (.tmp 37) = .int .i64 (k : Int) := hdep 6 (by kernel_rfl) _ rfl
                  exact ⟨rfl, op_val (v := .pointer (some ⟨g, k, none⟩)) (w' := W) (by simp [go_sem, evT h1, evT h2, kn]) ⟨_, rfl, (hG2 7 (by decide) (by decide)), rfl⟩⟩
                rcases i with _ | i
                · cases ho
                  have h1 : a.eval (.tmp 38) = .pointer (some ⟨g, k, none⟩) := hdep 7 (by kernel_rfl) _ rfl
                  exact ⟨rfl, op_val (v := .slice (some ⟨gi, 0, none⟩) wk ci) (w' := W) (by simp [go_sem, evT h1, hrow]) ⟨_, rfl, (hG2 8 (by decide) (by decide)), rfl⟩⟩
                rcases i with _ | i
                · cases ho
                  exact ⟨rfl, _, rfl, (hG2 9 (by decide) (by decide)), e6⟩
                rcases i with _ | i
                · cases ho
                  have h1 : a.eval (.tmp 39) = .slice (some ⟨gi, 0, none⟩) wk ci := hdep 8 (by kernel_rfl) _ rfl
                  have h2 : a.eval (.tmp 40) = .int .i64 (q : Int) := hdep 9 (by kernel_rfl) _ rfl
                  exact ⟨rfl, op_val (v := .pointer (some ⟨gi, q, none⟩)) (w' := W) (by simp [go_sem, evT h1, evT h2, qw]) ⟨_, rfl, (hG2 10 (by decide) (by decide)), rfl⟩⟩
                rcases i with _ | i
                · cases ho
                  have h1 : a.eval (.tmp 41) = .pointer (some ⟨gi, q, none⟩) := hdep 10 (by kernel_rfl) _ rfl
                  have hd : bt 25 = false := by
                    cases hb : bt 25 with
                    | false => rfl
                    | true =>
                      have c0 := hcl 25 _ hb rfl 23 (by kernel_rfl)
                      have c1 := hcl 23 _ c0 rfl 11 (by kernel_rfl)
                      rw [hni] at c1; cases c1
                  have hc := hcel hd
                  exact ⟨rfl, op_val (v := .int .i64 c) (w' := W) (by simp [go_sem, evT h1, hc]) ⟨_, rfl, (hG2 11 (by decide) (by decide)), rfl⟩⟩
                rcases i with _ | i
                · cases ho
                  exact ⟨rfl, _, rfl, (hG2 12 (by decide) (by decide)), e4⟩
                rcases i with _ | i
                · cases ho
                  exact ⟨rfl, _, rfl, (hG2 13 (by decide) (by decide)), e5⟩
                rcases i with _ | i
                · cases ho
                  have h1 : a.eval (.tmp 43) = .slice (some ⟨g, 0, none⟩) t.length cp := hdep 12 (by kernel_rfl) _ rfl
                  have h2 : a.eval (.tmp 44) = .int .i64 (k : Int) := hdep 13 (by kernel_rfl) _ rfl
                  exact ⟨rfl, op_val (v := .pointer (some ⟨g, k, none⟩)) (w' := W) (by simp [go_sem, evT h1, evT h2, kn]) ⟨_, rfl, (hG2 14 (by decide) (by decide)), rfl⟩⟩
                rcases i with _ | i
                · cases ho
                  have h1 : a.eval (.tmp 45) = .pointer (some ⟨g, k, none⟩) := hdep 14 (by kernel_rfl) _ rfl
                  exact ⟨rfl, op_val (v := .slice (some ⟨gi, 0, none⟩) wk ci) (w' := W) (by simp [go_sem, evT h1, hrow]) ⟨_, rfl, (hG2 15 (by decide) (by decide)), rfl⟩⟩
                rcases i with _ | i
                · cases ho
                  exact ⟨rfl, _, rfl, (hG2 16 (by decide) (by decide)), e6⟩
                rcases i with _ | i
                · cases ho
                  have h1 : a.eval (.tmp 46) = .slice (some ⟨gi, 0, none⟩) wk ci := hdep 15 (by kernel_rfl) _ rfl
                  have h2 : a.eval (.tmp 47) = .int .i64 (q : Int) := hdep 16 (by kernel_rfl) _ rfl
                  exact ⟨rfl, op_val (v := .pointer (some ⟨gi, q, none⟩)) (w' := W) (by simp [go_sem, evT h1, evT h2, qw]) ⟨_, rfl, (hG2 17 (by decide) (by decide)), rfl⟩⟩
                rcases i with _ | i
                · cases ho
                  have h1 : a.eval (.tmp 48) = .pointer (some ⟨gi, q, none⟩) := hdep 17 (by kernel_rfl) _ rfl
                  have hd : bt 25 = false := by
                    cases hb : bt 25 with
                    | false => rfl
                    | true =>
                      have c0 := hcl 25 _ hb rfl 23 (by kernel_rfl)
                      have c1 := hcl 23 _ c0 rfl 22 (by kernel_rfl)
                      have c2 := hcl 22 _ c1 rfl 19 (by kernel_rfl)
                      have c3 := hcl 19 _ c2 rfl 18 (by kernel_rfl)
                      rw [hni] at c3; cases c3
                  have hc := hcel hd
                  exact ⟨rfl, op_val (v := .int .i64 c) (w' := W) (by simp [go_sem, evT h1, hc]) ⟨_, rfl, (hG2 18 (by decide) (by decide)), rfl⟩⟩
                rcases i with _ | i
                · cases ho
                  have h1 : a.eval (.tmp 49) = .int .i64 c := hdep 18 (by kernel_rfl) _ rfl
                  exact ⟨rfl, op_val (v := .int .i64 (c % 3)) (w' := W) (by simp [go_sem, evT h1, mm]) ⟨_, rfl, (hG2 19 (by decide) (by decide)), rfl⟩⟩
                rcases i with _ | i
                · cases ho
                  exact ⟨rfl, _, rfl, (hG2 20 (by decide) (by decide)), e0⟩
                rcases i with _ | i
                · cases ho
                  have h1 : a.eval (.tmp 51) = .pointer (some ⟨B, 0, none⟩) := hdep 20 (by kernel_rfl) _ rfl
                  refine ⟨rfl, op_enter (w' := W) (f := 18) (args := #[.pointer (some ⟨B, 0, none⟩), .int .i64 2]) (by simp [go_sem, evT h1]) ?_⟩
                  refine (pick_use W B a1 len cap zs p' 2 hrd (by omega)).mono ?_
                  rintro e W2 ⟨m, rfl, hm, r2, g2⟩
                  refine ⟨_, rfl, _, rfl, ?_, ⟨m, rfl, by omega⟩⟩
                  refine ⟨p' + 1, T, fun h => ?_, by omega, by have := hp1 hni; omega, r2, grow_trans hgr g2, hou.keptB g2 (fun j e hj => by cases e; have := (hou.blk hj).1; omega), hlen, fun h => hT0 (by simpa using h), fun h => hT1 (by simpa using h)⟩
                  simp at h
                rcases i with _ | i
                · cases ho
                  have h1 : a.eval (.tmp 50) = .int .i64 (c % 3) := hdep 19 (by kernel_rfl) _ rfl
                  obtain ⟨x, h2, hx⟩ : ∃ x : Nat, a.eval (.tmp 52) = .int .i64 (x : Int) ∧ x ≤ 1 := hdep 21 (by kernel_rfl) _ rfl
                  have hw : ∃ y, IntKind.i64.wrap (c % 3 * (x : Int)) = y ∧ 0 ≤ y ∧ y ≤ c := by
                    have : x = 0 ∨ x = 1 := by omega
                    rcases this with rfl | rfl
                    · exact ⟨0, by simp [IntKind.wrap_i64], by omega, by omega⟩
                    · exact ⟨c % 3, by rw [IntKind.wrap_i64]; simp; omega, by omega, by omega⟩
                  obtain ⟨y, hy, y0, y1⟩ := hw
                  exact ⟨rfl, op_val (v := .int .i64 y) (w' := W) (by simp [go_sem, evT h1, evT h2, hy]) ⟨_, rfl, (hG2 22 (by decide) (by decide)), ⟨y, rfl, y0, y1⟩⟩⟩
                rcases i with _ | i
                · cases ho
                  have h1 : a.eval (.tmp 42) = .int .i64 c := hdep 11 (by kernel_rfl) _ rfl
                  obtain ⟨y, h2, y0, y1⟩ : ∃ y, a.eval (.tmp 53) = .int .i64 y ∧ 0 ≤ y ∧ y ≤ c := hdep 22 (by kernel_rfl) _ rfl
                  have hw : IntKind.i64.wrap (c - y) = c - y := by rw [IntKind.wrap_i64]; omega
                  exact ⟨rfl, op_val (v := .int .i64 (c - y)) (w' := W) (by simp [go_sem, evT h1, evT h2, hw]) ⟨_, rfl, (hG2 23 (by decide) (by decide)), ⟨c - y, rfl, by omega, by omega⟩⟩⟩
                rcases i with _ | i
                · cases ho
                  have h1 : a.eval (.tmp 34) = .slice (some ⟨gi, 0, none⟩) wk ci := hdep 3 (by kernel_rfl) _ rfl
                  have h2 : a.eval (.tmp 35) = .int .i64 (q : Int) := hdep 4 (by kernel_rfl) _ rfl
                  exact ⟨rfl, op_val (v := .pointer (some ⟨gi, q, none⟩)) (w' := W) (by simp [go_sem, evT h1, evT h2, qw]) ⟨_, rfl, (hG2 24 (by decide) (by decide)), rfl⟩⟩
                rcases i with _ | i
                · cases ho
                  have h1 : a.eval (.tmp 55) = .pointer (some ⟨gi, q, none⟩) := hdep 24 (by kernel_rfl) _ rfl
                  obtain ⟨z, h2, z0, z1⟩ : ∃ z, a.eval (.tmp 54) = .int .i64 z ∧ 0 ≤ z ∧ z ≤ 99 := hdep 23 (by kernel_rfl) _ rfl
                  have hc := hcel hni
                  have hfz := hfrz
                  refine ⟨rfl, op_skip (w' := W.setCell ⟨gi, q, none⟩ (.int .i64 z)) (by simp [go_sem, evT h1, evT h2, hc, hfz]) ⟨_, rfl, ?_, trivial⟩⟩
                  refine ⟨p', setT T k q z, fun h => hp1 (by simpa using h), by omega, by omega, hrd.kept (grow_set (b := gi) (grow_refl _ _) q (.int .i64 z)) (fun j e => by cases e; omega), grow_beside hgr (grow_set (b := gi) (grow_refl _ _) q (.int .i64 z)) (by omega), OwnU.setT hou (by omega) hu q z, by rw [setT_len]; exact hlen, fun h => by simp at h, fun _ => ⟨z, z0, z1, by rw [hT0 hni]⟩⟩
                · cases ho
              case fin =>
                intro a W bt hsz' hdf hG hall hold hfact
                obtain ⟨p', T, hp1', hp2, hp3, hrd', hgr', hou, hlen, hT0, hT1⟩ := hG
                obtain ⟨z, z0, z1, rfl⟩ := hT1 (hall 25 (by simp))
                have HO3 := Lib.hid hou
                have HR3 := Lib.hid hrd'
                have HG3 := Lib.hid hgr'
                have HK3 := Lib.hid (tbl_set hto.out hlt' (by rw [hw']; exact hqlt) z0 z1)
                have HS3 := Lib.hid (sameT_set hsm.out k q z)
                have hsz3 : w.heap.size ≤ W.heap.size := hgr'.size
                obtain ⟨f, rfl⟩ := frame_lit [31, 32, 33, 34, 35, 36, 37, 38, 39, 40, 41, 42, 43, 44, 45, 46, 47, 48, 49, 50, 51, 52, 53, 54, 55] (by kernel_rfl) hsz' hdf hold
                clear hsz' hdf hall hold hfact hT0 hT1 hou hrd' hgr' hp1' ho hto hsm hrd hgr hrow0
                simp only [List.foldl_cons, List.foldl_nil, List.setIfInBounds_toArray, List.set_cons_succ, List.set_cons_zero]
                go_wp2_with fail
                go_roundw
                case rel => exact ⟨q + 1, _, p', by omega, by go_num, HO3, HK3, HS3, by omega, by omega, HR3, HG3, hsz3⟩
                case measure => simp [intOf]; omega
            · go_wp2_with fail
              go_roundw
              case rel => exact ⟨k + 1, t', pp, by omega, by go_num, ho, hto, hsm, by omega, by omega, hrd, hgr, hsz⟩
              case measure => simp [intOf]; omega
        · go_wp2_with fail
          go_ret2
          exact ⟨_, t', us, 3, pp, rfl, ho.out, hto.out.tblD, by omega, by omega, by omega, by omega, hrd.out, hgr.out⟩
    · have D : Hid (decide (tblOk t) = false) := by unfold Hid; simpa using hok
      rw [D.out]
      clear hok D
      go_wp2_with fail
      refine (fin _ (p1 + 1) (by omega) (by omega) (HO2.out.drewN n3) (grow_drewN HG2.out n3) (R2.out.drewN n3)).mono ?_
      rintro e w4 ⟨b, pp', rfl, b1, b2, b3, b4, b5, b6, b7⟩
      go_wp2_with fail
      go_ret2
      exact ⟨_, t, us, b, pp', rfl, b7.out, HD.out, b1, b2, by omega, by omega, b5.out, b6.out⟩
  · have hm1 : m = 1 := by omega
    subst hm1
    go_wp2_with fail
    refine (fin _ (p1 + 1) (by omega) (by omega) HO2 HG2 R2).mono ?_
    rintro e w4 ⟨b, pp', rfl, b1, b2, b3, b4, b5, b6, b7⟩
    go_wp2_with fail
    go_ret2
    exact ⟨_, t, us, b, pp', rfl, b7.out, HD.out, b1, b2, by omega, by omega, b5.out, b6.out⟩

/-- what the drawing of a table and a base gives to a law -/
def DrawnCtl (w : World) (e : Ending) (w' : World) : Prop :=
  ∃ g cap t us b, e = .returned (.tuple #[.slice (some ⟨g, 0, none⟩) t.length cap, .int .i64 b]) ∧ Hid (OwnU w' w.heap.size (.slice (some ⟨g, 0, none⟩) t.length cap) t us) ∧ Hid (TblD t) ∧ 1 ≤ b ∧ b ≤ 21 ∧ Below w.heap.size w w'

end Go.Proofs.Ytigdgcpjkeaooaa
