/- The drawing of tables of changes. -/
import Derived.Test.YtahnabijaoimfaaOwnT2
namespace Go.Proofs.Ytahnabijaoimfaa
open Go.RowKit

/-- what the drawing of rows leaves -/
def DrewRows (w : World) (B : Nat) (a : Option Addr) (len cap : Nat) (zs : List Int) (p : Int) (e : Ending) (w' : World) : Prop :=
  ∃ v t us p', e = .returned v ∧ OwnU w' w.heap.size v t us ∧ t.length ≤ 4 ∧ Hid (∀ i, i < t.length → 16 ≤ (t[i]?.getD []).length ∧ (t[i]?.getD []).length ≤ 17) ∧ p ≤ p' ∧ p' ≤ p + 40 ∧ Rd w' B a len cap zs p' ∧ w.grownBy w' (some B)

theorem lens_push {t : List (List Int)} {r : List Int} (h : ∀ i, i < t.length → (t[i]?.getD []).length = 16) (hr : r.length = 16) : ∀ i, i < (t ++ [r]).length → ((t ++ [r])[i]?.getD []).length = 16 := by
  intro i hi
  simp at hi
  by_cases e : i = t.length
  · subst e; simp [hr]
  · rw [List.getElem?_append_left (by omega)]; exact h i (by omega)
theorem lens_set {t : List (List Int)} {i : Nat} {r : List Int} (hi : i < t.length) (h : ∀ i, i < t.length → 16 ≤ (t[i]?.getD []).length ∧ (t[i]?.getD []).length ≤ 17) (hr : 16 ≤ r.length ∧ r.length ≤ 17) : ∀ k, k < (t.set i r).length → 16 ≤ ((t.set i r)[k]?.getD []).length ∧ ((t.set i r)[k]?.getD []).length ≤ 17 := by
  intro k hk
  rw [List.length_set] at hk
  rw [getD_set hi]
  by_cases e : k = i
  · rw [if_pos e]; exact hr
  · rw [if_neg e]; exact h k hk

/-- sixteen zeros -/
def zrow : Array Value := madeCells #[.int .i64 0] 16
theorem make16 (W : World) : (Instr.makeSlice 26 (.int .i64 16) (.int .i64 16)).run Try.prog W = .ok (.slice (some ⟨W.heap.size, 0, none⟩) 16 16) (W.alloc (.cells zrow 3)) :=
  run_make_row' (P := Try.prog) 26 3 (.int .i64 0) 8 Try.underlying26 Try.info_int rfl .i64 .i64 16 (by omega) (by omega) W
theorem OwnI.made16 (w : World) (base b : Nat) (hb : base ≤ w.heap.size) (e : w.heap.size = b) : OwnI (w.alloc (.cells zrow 3)) base (.slice (some ⟨b, 0, none⟩) 16 16) (List.replicate 16 0) := by
  subst e
  exact OwnI.made w base 16 hb (by unfold maxLen; omega)

set_option maxHeartbeats 2000000 in
theorem sRows (w : World) (B : Nat) (a : Option Addr) (len cap : Nat) (zs : List Int) (p : Int) (h : Rd w B a len cap zs p) (hp : p < 999000) :
    Calls Try.prog 26 #[.pointer (some ⟨B, 0, none⟩)] w (DrewRows w B a len cap zs p) := by
  obtain ⟨i0, hi, hz0, hz1, hz2⟩ := info_parts Try.info_int
  obtain ⟨j0, hj, hy0, hy1, hy2⟩ := info_parts Try.info_row
  have hB := h.lt
  have hmk := make16
  go_enter Try.func26, Try.ntmps26
  go_wp2_with fail
  refine (pick_use _ B a len cap zs p 4 ((h.alloc _).alloc _) (by omega)).mono ?_
  rintro e w1 ⟨n, rfl, hn, r1, g1⟩
  have hn6 : n ≤ 3 := by omega
  have o1 : OwnU w1 w.heap.size (.slice (some ⟨w.heap.size + 1, 0, none⟩) 1 1) [List.replicate 16 0] [.slice (some ⟨w.heap.size, 0, none⟩) 16 16] :=
    (OwnU.one (OwnI.made16 w w.heap.size _ (Nat.le_refl _) rfl) (by simp) (by simp)).kept g1 (fun k e => by cases e; exact hB)
  have G1 : w.grownBy w1 (some B) := grow_trans (grow_trans (World.grownBy_alloc _ _ _) (World.grownBy_alloc _ _ _)) g1
  have O1 := Lib.hid o1
  have HMK := Lib.hid hmk
  clear hn g1 o1 h
  go_wp2_with fail
  go_loopw [3, 5] (fun v i wr => ∃ (k : Nat) (t : List (List Int)) (us : List Value) (q : Int), 1 ≤ k ∧ k ≤ n + 1 ∧ i = .int .i64 k ∧ Hid (t.length = k) ∧ OwnU wr w.heap.size v t us ∧ Hid (∀ i, i < t.length → (t[i]?.getD []).length = 16) ∧ p ≤ q ∧ q ≤ p + 1 + 10 * (k - 1) ∧ Rd wr B a len cap zs q ∧ w.grownBy wr (some B)) (fun _ i _ => n + 1 - (intOf i).toNat)
  case atStart => exact ⟨1, _, _, p + 1, by omega, by omega, rfl, by simp [Hid], O1.out, fun i hi => by simp at hi; subst hi; rfl, by omega, by omega, r1, G1⟩
  case round =>
    obtain ⟨k, t, us, q, hk1, hk2, rfl, htl, ho, hlens, hq1, hq2, hrd, hg⟩ := hrel
    have HO := Lib.hid ho
    obtain ⟨g, cp, rfl, hgb, hgs, hcp1, hcp2⟩ := ho.form
    by_cases hlt : k ≤ n
    · obtain ⟨wo, rfl⟩ : ∃ wo : World, wo = wr := ⟨_, rfl⟩
      have HNB : Hid (¬ blksU (.slice (some ⟨g, 0, none⟩) t.length cp) us wo.heap.size) := fun hh => by have := (HO.out.blk hh).2; omega
      have hsz : w.heap.size ≤ wo.heap.size := hg.size
      have HI0 := Lib.hid (OwnI.made16 wo w.heap.size wo.heap.size hsz rfl)
      clear ho
      go_wp2_with fail
      go_loopw [7] (fun c wr => ∃ (m : Nat) (rs : List Int) (q' : Int), m ≤ 5 ∧ c = .int .i64 m ∧ Hid (rs.length = 16) ∧ OwnI wr w.heap.size (.slice (some ⟨wo.heap.size, 0, none⟩) 16 16) rs ∧ OwnU wr w.heap.size (.slice (some ⟨g, 0, none⟩) t.length cp) t us ∧ q ≤ q' ∧ q' ≤ q + 2 * m ∧ Rd wr B a len cap zs q' ∧ w.grownBy wr (some B)) (fun c _ => 5 - (intOf c).toNat)
      case atStart => exact ⟨0, _, q, by omega, rfl, by simp [Hid], HI0.out, HO.out.alloc _, by omega, by omega, hrd.alloc _, grow_alloc hg _⟩
      case round =>
        obtain ⟨m, rs, q', hm, rfl, hrs, hoi, hou, hq3, hq4, hrd2, hg2⟩ := hrel
        by_cases hm5 : m < 5
        · go_wp2_with fail
          refine (pick_use _ B a len cap zs _ 16 hrd2 (by omega)).mono ?_
          rintro e wa ⟨x, rfl, hx, ra, ga⟩
          go_wp2_with fail
          refine (pick_use _ B a len cap zs _ 16 ra (by omega)).mono ?_
          rintro e wb ⟨y, rfl, hy, rb, gb⟩
          have gab := grow_trans ga gb
          have oib := hoi.kept gab (fun k e => by cases e; exact hB)
          have oub := Lib.hid (hou.kept gab (fun k e => by cases e; exact hB))
          have hg3 := grow_trans hg2 gab
          have hrl := hrs.out
          have hcx := oib.cell (j := x) (by omega)
          have hcy := oib.cell (j := y) (by omega)
          have hfx := oib.frozen x
          have hfy := oib.frozen y
          have HOI := Lib.hid oib
          have hx16 : x < 16 := by omega
          have hy16 : y < 16 := by omega
          generalize rs[x]?.getD 0 = zx at hcx
          generalize rs[y]?.getD 0 = zy at hcy
          have HRS := hrs
          obtain ⟨zy2, hzy2⟩ : ∃ z, (rs.set x (wrap64 (zx - 1)))[y]?.getD 0 = z := ⟨_, rfl⟩
          have hcy2 := (HOI.out.set x (wrap64 (zx - 1))).cell (j := y) (by simp; omega)
          rw [hzy2] at hcy2
          have HI2 := Lib.hid ((HOI.out.set x (wrap64 (zx - 1))).set y (wrap64 (zy2 + 1)))
          have HU2 := Lib.hid ((oub.out.keptB (grow_set (b := wo.heap.size) (grow_refl wb _) x (.int .i64 (wrap64 (zx - 1)))) (fun k e => by cases e; exact HNB.out)).keptB (grow_set (b := wo.heap.size) (grow_refl _ _) y (.int .i64 (wrap64 (zy2 + 1)))) (fun k e => by cases e; exact HNB.out))
          have HR2 := Lib.hid ((rb.kept (grow_set (b := wo.heap.size) (grow_refl wb _) x (.int .i64 (wrap64 (zx - 1)))) (fun k e => by cases e; omega)).kept (grow_set (b := wo.heap.size) (grow_refl _ _) y (.int .i64 (wrap64 (zy2 + 1)))) (fun k e => by cases e; omega))
          have HG2 := Lib.hid (grow_beside (grow_beside hg3 (grow_set (b := wo.heap.size) (grow_refl wb _) x (.int .i64 (wrap64 (zx - 1)))) hsz) (grow_set (b := wo.heap.size) (grow_refl _ _) y (.int .i64 (wrap64 (zy2 + 1)))) hsz)
          have HRB := Lib.hid rb
          have HG3 := Lib.hid hg3
          clear hoi hou hx hy hrl ra oib hrd2 hrd gab ga gb hrs hzy2 rb hg3 hg2
          by_cases c1 : -(k : Int) < zx
          · by_cases c2 : zy < 9
            · have d2 : decide (zy < 9) = true := by simpa using c2
              go_wp2_with fail
              go_roundw
              case rel => exact ⟨m + 1, _, _, by omega, by go_num, by simp [Hid, HRS.out], HI2.out, HU2.out, by omega, by omega, HR2.out, HG2.out⟩
              case measure => simp [intOf]; omega
            · have d2 : decide (zy < 9) = false := by simpa using c2
              go_wp2_with fail
              go_roundw
              case rel => exact ⟨m + 1, _, _, by omega, by go_num, HRS, HOI.out, oub.out, by omega, by omega, HRB.out, HG3.out⟩
              case measure => simp [intOf]; omega
          · have c1' : zx ≤ -(k : Int) := by omega
            go_wp2_with fail
            go_roundw
            case rel => exact ⟨m + 1, _, _, by omega, by go_num, HRS, HOI.out, oub.out, by omega, by omega, HRB.out, HG3.out⟩
            case measure => simp [intOf]; omega
        · have hwz := hg2.size
          have HOI := Lib.hid hoi
          have HOU := Lib.hid hou
          have hks : t.length ≤ 8 := by have := htl.out; omega
          go_wp2_with (at_builtin; refine wpList_append_own_at _ rfl _ _ 23 rfl w.heap.size 26 j0 (.slice none 0 0) 1 24 Try.underlying23 hj hy0 hy1 hy2 rfl (by decide) _ _ _ rfl (hou.outer.alloc _) ⟨wr.heap.size, 0, none⟩ 1 1 [.slice (some ⟨wo.heap.size, 0, none⟩) 16 16] rfl rfl (cell_one_new _ _ _) (by simp [Value.oneCell']) ?c3 ?c4 ?c5 ?_)
          case c3 => unfold maxLen; omega
          case c4 => omega
          case c5 => simp; omega
          intro v' w3 hown' hgrow hnil hat
          have hlt3 : wo.heap.size < wr.heap.size := (hoi.1.lt _ rfl).2
          have ho3 := Lib.hid ((HOU.out.alloc (.cells #[.slice (some ⟨wo.heap.size, 0, none⟩) 16 16] 26)).push (HOI.out.alloc _) (fun k e => by cases e; exact HNB.out) hown' hgrow (by simpa using hnil) (by rcases hat with e | e; exact .inl e; exact .inr ⟨_, e, by simp⟩))
          have hg3 : wr.grownBy w3 (some g) := grow_trans (World.grownBy_alloc _ _ _) hgrow
          have r3 := Lib.hid (hrd2.kept hg3 (fun k e => by cases e; omega))
          have G3 := Lib.hid (grow_beside hg2 hg3 hgb)
          have HL3 := Lib.hid (lens_push hlens.out hrs.out)
          obtain ⟨g4, cp4, hv4, _⟩ := ho3.out.form
          rw [show (t ++ [rs]).length = t.length + 1 by simp] at hv4
          have HV4 := Lib.hid hv4
          clear hown' hgrow hnil hat hrd2 hrd hou hoi hg3 hg2 hlens
          subst hv4
          go_wp2_with fail
          go_roundw
          case rel => exact ⟨k + 1, t ++ [rs], _, _, by omega, by omega, by go_num, by have := htl.out; simp [Hid]; omega, ho3.out, HL3.out, by omega, by omega, r3.out, G3.out⟩
          case measure => simp [intOf]; omega
    · have hks : t.length ≤ 4 := by have := htl.out; omega
      have hnt : n < t.length := by have := htl.out; omega
      go_wp2_with fail
      refine (pick_use _ B a len cap zs _ 24 hrd (by omega)).mono ?_
      rintro e w2 ⟨m, rfl, hm, r2, g2⟩
      have ho2 := Lib.hid (HO.out.kept g2 (fun k e => by cases e; exact hB))
      have G2 : w.grownBy w2 (some B) := grow_trans hg g2
      have HL : Hid (∀ i, i < t.length → 16 ≤ (t[i]?.getD []).length ∧ (t[i]?.getD []).length ≤ 17) := fun i hi => by have := hlens.out i hi; omega
      have hkb : (k : Int) ≤ 4 := by omega
      clear hrd ho g2 hg
      by_cases m0 : m = 0
      · subst m0
        obtain ⟨gi, ci, hu, hc, hgi1, hgi2, hgi3, hci1, hci2, hoi⟩ := ho2.out.row (i := 0) (by omega)
        have hl3 := HL.out 0 (by omega)
        have hc3 := hoi.cell (j := 3) (by omega)
        have hf3 := hoi.frozen 3
        generalize hl3' : (t[0]?.getD []).length = l0 at *
        generalize ((t[0]?.getD [])[3]?.getD 0) = z3 at hc3
        have HS := Lib.hid (ho2.out.set (i := 0) (by omega) hu 3 1)
        have hl3i : (3 : Int) < (l0 : Int) := by omega
        have h0i : (0 : Int) < (t.length : Int) := by omega
        have HL2 := Lib.hid (lens_set (i := 0) (r := (t[0]?.getD []).set 3 1) (by omega) HL.out (by rw [List.length_set]; omega))
        have R3 := Lib.hid (r2.kept (grow_set (b := gi) (grow_refl _ _) 3 (.int .i64 1)) (fun k e => by cases e; omega))
        have G3 := Lib.hid (grow_beside G2 (grow_set (b := gi) (grow_refl _ _) 3 (.int .i64 1)) hgi1)
        clear hl3' hu hoi r2
        go_wp2_with fail
        go_ret
        exact ⟨_, t.set 0 ((t[0]?.getD []).set 3 1), us, _, rfl, HS.out, by simp; omega, HL2.out, by omega, by omega, R3.out, G3.out⟩
      by_cases m1 : m = 1
      · subst m1
        obtain ⟨gi, ci, hu, hc, hgi1, hgi2, hgi3, hci1, hci2, hoi⟩ := ho2.out.row (i := n) (by omega)
        have hl3 := HL.out n (by omega)
        have hui : us[n]?.getD (.slice none 0 0) = .slice (some ⟨gi, 0, none⟩) (t[n]?.getD []).length ci := by rw [hu]; rfl
        have HUI := Lib.hid hui
        have HOI := Lib.hid hoi
        obtain ⟨r0, hr0⟩ : ∃ r0, t[n]?.getD [] = r0 := ⟨_, rfl⟩
        rw [hr0] at hl3 hc hci1 HUI HOI hoi
        have HR0 := Lib.hid hr0
        have hni : (n : Int) < (t.length : Int) := by omega
        clear hu hui hr0
        go_wp2_with (at_builtin; refine wpList_append_own_at _ rfl _ _ 26 rfl w.heap.size 3 i0 (.int .i64 0) 1 8 Try.underlying26 hi hz0 hz1 hz2 rfl (by decide) _ _ _ rfl (hoi.1.alloc _) ⟨w2.heap.size, 0, none⟩ 1 1 [.int .i64 0] rfl rfl (cell_one_new _ _ _) (by simp [Value.oneCell']) ?c3 ?c4 ?c5 ?_)
        case c3 => unfold maxLen; omega
        case c4 => omega
        case c5 => have := G2.size; simp; omega
        intro v' w3 hown' hgrow hnil hat
        have hv3 : OwnI w3 w.heap.size v' (r0 ++ [0]) := HOI.out.push hown' (by simpa using hnil)
        have hg3 : w2.grownBy w3 (some gi) := grow_trans (World.grownBy_alloc _ _ _) hgrow
        have HS := Lib.hid (ho2.out.setRow (w' := w3) (i := n) (u := v') (r := r0 ++ [0]) (by omega) (by rw [HUI.out]; exact hg3) hv3 (by rw [HUI.out]; rcases hat with e | e; exact .inl e; exact .inr ⟨_, e, by simp⟩))
        have hcn : w3.cell? ⟨g, n, none⟩ = some (.slice (some ⟨gi, 0, none⟩) r0.length ci) := hg3.cell hc (by simp; omega)
        have hfn : w3.frozen? ⟨g, n, none⟩ = false := by
          obtain ⟨_, _, e, _⟩ := ho2.out.form
          have := ho2.out.outer.frozenAt n
          rw [← this]
          exact World.frozen?_of_block (hg3.block g (by have := (ho2.out.outer.lt g rfl).2; exact this) (by simp; omega))
        have HL2 := Lib.hid (lens_set (i := n) (r := r0 ++ [0]) (by omega) HL.out (by have := hlens.out n (by omega); rw [HR0.out] at this; simp; omega))
        have R3 := Lib.hid ((r2.kept hg3 (fun k e => by cases e; omega)).kept (grow_set (b := g) (grow_refl _ _) n v') (fun k e => by cases e; omega))
        have G3 := Lib.hid (grow_beside (grow_beside G2 hg3 hgi1) (grow_set (b := g) (grow_refl _ _) n v') hgb)
        obtain ⟨g4, cp4, hv4, _⟩ := hv3.form
        rw [show (r0 ++ [(0 : Int)]).length = r0.length + 1 by simp] at hv4
        clear hown' hgrow hnil hat r2 hv3 hoi
        subst hv4
        go_wp2_with fail
        go_ret
        exact ⟨_, t.set n (r0 ++ [0]), _, _, rfl, HS.out, by simp; omega, HL2.out, by omega, by omega, R3.out, G3.out⟩
      by_cases m2 : m = 2
      · subst m2
        clear m0 m1
        go_wp2_with fail
        go_ret
        exact ⟨_, [], [], _, rfl, OwnU.empty w2 _ G2.size, by simp, fun i hi => by simp at hi, by omega, by omega, r2.alloc _, grow_alloc G2 _⟩
      · have c0 : ((m : Int) == 0) = false := by simp; omega
        have c1 : ((m : Int) == 1) = false := by simp; omega
        have c2 : ((m : Int) == 2) = false := by simp; omega
        have R2 := Lib.hid r2
        clear m0 m1 m2
        go_wp2_with fail
        go_ret
        exact ⟨_, t, us, _, rfl, ho2.out, by omega, HL, by omega, by omega, R2.out, G2⟩

end Go.Proofs.Ytahnabijaoimfaa
