/- The drawing of tables: l92Table. -/
import Derived.Test.YtdlpcoafbmhjjaaDrawT
import Derived.Deep.DeepCutAuto
namespace Go.Proofs.Ytdlpcoafbmhjjaa
open Go.RowKit
attribute [local go_sem ↓] Go.wp_at_zero Go.wp_at_succ

/-- what the drawing of a table leaves -/
def DrewTab (w : World) (B : Nat) (a : Option Addr) (len cap : Nat) (zs : List Int) (p : Int) (e : Ending) (w' : World) : Prop :=
  ∃ v t us p', e = .returned v ∧ OwnU w' w.heap.size v t us ∧ TblD t ∧ p ≤ p' ∧ p' ≤ p + 40 ∧ Rd w' B a len cap zs p' ∧ w.grownBy w' (some B)

/-- an element of a literal of three numbers -/
theorem three_litB (x y z : Int) (k : Nat) (lo hi : Int) (h1 : lo ≤ x ∧ x ≤ hi) (h2 : lo ≤ y ∧ y ≤ hi) (h3 : lo ≤ z ∧ z ≤ hi) (hk : k < 3) : ∃ u, lo ≤ u ∧ u ≤ hi ∧ (#[Value.int .i64 x, .int .i64 y, .int .i64 z] : Array Value)[k]? = some (.int .i64 u) := by
  have : k = 0 ∨ k = 1 ∨ k = 2 := by omega
  rcases this with rfl | rfl | rfl
  · exact ⟨x, h1.1, h1.2, rfl⟩
  · exact ⟨y, h2.1, h2.2, rfl⟩
  · exact ⟨z, h3.1, h3.2, rfl⟩
theorem frozen_alloc' {w : World} {p : Addr} {v : Value} (h : w.cell? p = some v) (hf : w.frozen? p = false) : ∀ o, (w.alloc o).frozen? p = false := fun o => by
  rw [← hf]
  exact World.frozen?_of_block ((World.grownBy_alloc w o none).block _ (World.block_lt_of_cell? _ _ h) (by simp))

/-- a row of an own table, by its width -/
theorem OwnU.rowW {w : World} {base g n cap : Nat} {t : List (List Int)} {us : List Value} (h : OwnU w base (.slice (some ⟨g, 0, none⟩) n cap) t us) {i : Nat} (hi : i < t.length) :
    ∃ gi ci, us[i]? = some (.slice (some ⟨gi, 0, none⟩) (wid t i) ci) ∧ w.cell? ⟨g, i, none⟩ = some (.slice (some ⟨gi, 0, none⟩) (wid t i) ci) ∧ base ≤ gi ∧ gi < w.heap.size ∧ gi ≠ g ∧ wid t i ≤ ci ∧ ci ≤ maxLen ∧ OwnI w base (.slice (some ⟨gi, 0, none⟩) (wid t i) ci) (t[i]?.getD []) := h.row hi
theorem OwnU.setT {w : World} {base : Nat} {v : Value} {t : List (List Int)} {us : List Value} (h : OwnU w base v t us) {i : Nat} (hi : i < t.length) {gi n ci : Nat} (hu : us[i]? = some (.slice (some ⟨gi, 0, none⟩) n ci)) (j : Nat) (x : Int) :
    OwnU (w.setCell ⟨gi, j, none⟩ (.int .i64 x)) base v (setT t i j x) us := h.set hi hu j x

theorem below_grown {w w' : World} (h : Below w.heap.size w w') (row : Option Nat) : w.grownBy w' row := ⟨h.os, h.tape, h.output, h.size, fun k hk _ => h.block k hk⟩

set_option maxHeartbeats 2000000 in
theorem sTable (w : World) (B : Nat) (a : Option Addr) (len cap : Nat) (zs : List Int) (p : Int) (most : Nat) (h : Rd w B a len cap zs p) (hp : p < 999000) (hm : most ≤ 30) :
    Calls Try.prog 41 #[.pointer (some ⟨B, 0, none⟩), .int .i64 (most : Int)] w (DrewTab w B a len cap zs p) := by
  obtain ⟨i0, hi, hz0, hz1, hz2⟩ := info_parts Try.info_int
  have hB := h.lt
  go_enter Try.func41, Try.ntmps41
  go_wp2_with fail
  refine (pick_use _ B a len cap zs p 3 h (by omega)).mono ?_
  rintro e w1 ⟨x1, rfl, hx1, r1, g1⟩
  go_wp2_with fail
  refine (pick_use _ B a len cap zs _ 3 r1 (by omega)).mono ?_
  rintro e w2 ⟨x2, rfl, hx2, r2, g2⟩
  go_wp2_with fail
  refine (pick_use _ B a len cap zs _ 3 r2 (by omega)).mono ?_
  rintro e w3 ⟨x3, rfl, hx3, r3, g3⟩
  have G3 := grow_trans (grow_trans g1 g2) g3
  have hx1' : x1 ≤ 2 := by omega
  have hx2' : x2 ≤ 2 := by omega
  clear g1 g2 g3 r1 r2 h hx1 hx2
  go_upto_if 18 with (fail)
  go_cut [5, 6] (fun s s6 wx => ∃ (hh c : Nat) (q : Int), s = .int .i64 (hh : Int) ∧ s6 = .int .i64 (c : Int) ∧ 1 ≤ c ∧ c ≤ 3 ∧ 1 ≤ hh ∧ hh ≤ 4 ∧ p ≤ q ∧ q ≤ p + 4 ∧ Rd wx B a len cap zs q ∧ w.grownBy wx (some B))
  case first =>
    by_cases h0 : x3 = 0
    · subst h0
      go_wp2_with fail
      refine (pick_use _ B a len cap zs _ 3 r3 (by omega)).mono ?_
      rintro e w4 ⟨x4, rfl, hx4, r4, g4⟩
      have hx4' : x4 ≤ 2 := by omega
      go_wp2_with fail
      go_meet
      exact ⟨2 + x4, 1 + x2, _, by go_num, by go_num, by omega, by omega, by omega, by omega, by omega, by omega, r4, grow_trans G3 g4⟩
    · have c0 : ((x3 : Int) == 0) = false := by simp; omega
      go_wp2_with fail
      go_meet
      exact ⟨1 + x1, 1 + x2, _, by go_num, by go_num, by omega, by omega, by omega, by omega, by omega, by omega, r3, G3⟩
  case rest =>
    obtain ⟨hh, c, q, rfl, rfl, hc1, hc2, hh1, hh2, hq1, hq2, rr, gg⟩ := hcut
    clear r3 G3 hx3
    go_wp2_with fail
    with_reducible refine (sBlank _ hh c hh2 (by omega)).mono ?_
    rintro e w5 ⟨v, us, rfl, o5, b5⟩
    have hszc := gg.size
    have O5 := Lib.hid (o5.mono hszc)
    have g5 : w.grownBy w5 (some B) := grow_trans gg (below_grown b5 _)
    have r5 := rr.kept (below_grown b5 none) (by simp)
    obtain ⟨g, cp, hv, hgb, hgs, hcp1, hcp2⟩ := o5.form
    have hzl : (zeroT hh c).length = hh := by simp [zeroT]
    rw [hzl] at hv hcp1
    subst hv
    have hgb' : w.heap.size ≤ g := by omega
    clear o5 rr gg b5 hzl hgb hgs
    go_wp2_with fail
    go_loopw [8] (fun i wr => ∃ (k : Nat) (t : List (List Int)) (q' : Int), k ≤ hh ∧ i = .int .i64 k ∧ OwnU wr w.heap.size (.slice (some ⟨g, 0, none⟩) hh cp) t us ∧ Hid (TblD t) ∧ Hid (t.length = hh ∧ ∀ i, i < hh → wid t i = c) ∧ q ≤ q' ∧ q' ≤ q + 3 * k ∧ Rd wr B a len cap zs q' ∧ w.grownBy wr (some B)) (fun i _ => hh - (intOf i).toNat)
    case atStart => exact ⟨0, _, q, Nat.zero_le _, rfl, O5.out, TblD.zero hh2 hc1 (by omega), ⟨by simp [zeroT], fun i hi => zeroT_wid hi⟩, by omega, by omega, r5, g5⟩
    case round =>
      obtain ⟨k, t, q', hk, rfl, ho, hd, hs, hq3, hq4, hrd, hg⟩ := hrel
      by_cases hlt : k < hh
      · clear r5 g5
        go_wp2_with fail
        obtain ⟨wo, rfl⟩ : ∃ wo : World, wo = wr := ⟨_, rfl⟩
        go_loopw [9] (fun j wr => ∃ (m : Nat) (t : List (List Int)) (q2 : Int), m ≤ c ∧ j = .int .i64 m ∧ OwnU wr w.heap.size (.slice (some ⟨g, 0, none⟩) hh cp) t us ∧ Hid (TblD t) ∧ Hid (t.length = hh ∧ ∀ i, i < hh → wid t i = c) ∧ q ≤ q2 ∧ q2 ≤ q + 3 * k + m ∧ Rd wr B a len cap zs q2 ∧ w.grownBy wr (some B)) (fun j _ => c - (intOf j).toNat)
        case atStart => exact ⟨0, t, q', Nat.zero_le _, rfl, ho, hd, hs, by omega, by omega, hrd, hg⟩
        case round =>
          obtain ⟨m, t2, q2, hm2, rfl, ho2, hd2, hs2, hq5, hq6, hrd2, hg2⟩ := hrel
          have HO2 := Lib.hid ho2
          have HD2 := hd2
          clear ho hd hs hrd hg
          by_cases hlt2 : m < c
          · obtain ⟨hs3, hs4⟩ := hs2.out
            obtain ⟨gi, ci, hu, hcell, hgi1, hgi2, hgi3, hci1, hci2, hoi⟩ := ho2.rowW (i := k) (by omega)
            obtain ⟨hcm, hfm⟩ := ho2.at (i := k) (by omega) hu (j := m) (by have := hs4 k hlt; unfold wid at this; omega)
            generalize (t2[k]?.getD [])[m]?.getD 0 = z0 at hcm
            rw [hs4 k hlt] at hcell hu
            have HU := Lib.hid hu
            have HS2 := hs2
            have hki : (k : Int) < (hh : Int) := by omega
            have hmi : (m : Int) < (c : Int) := by omega
            have hne : gi ≠ B := by omega
            have hneg : g ≠ B := by omega
            have RD2 := Lib.hid hrd2
            have e1 := IntWalk.i64_in ((most : Int) + 1) (by omega)
            clear hu hoi hs2 hd2 hrd2 ho2 hs3 hs4
            go_wp2_with fail
            go_region_with (first
              | (go_at_call 18; (with_reducible refine (pick_use _ B a len cap zs q2 ((most : Int) + 1) RD2.out.drew (by omega)).mono ?_); rintro e w6 ⟨x, rfl, hx, r6, g6⟩; have G6 : Hid (wr.grownBy w6 (some B)) := (ungrow_drew g6); have hcell6 := G6.out.cell hcell (by simp; omega); have hcm6 := G6.out.cell hcm (by simp; omega); have hfm6 := (World.frozen?_of_block (a := ⟨gi, m, none⟩) (G6.out.block gi hgi2 (by simp; omega))).trans hfm; have O6 := Lib.hid (HO2.out.kept G6.out (fun k e => by cases e; exact hB)); have R6 := Lib.hid r6; have hx2 : Hid ((x : Int) ≤ 30) := (by unfold Hid; omega); clear hx g6 r6))
            all_goals
              have HS3 := Lib.hid (O6.out.setT (i := k) (by have := HS2.out.1; omega) HU.out m (x : Int))
              have HD3 := Lib.hid (HD2.out.set (i := k) (j := m) (by have := HS2.out.1; omega) (by rw [HS2.out.2 k hlt]; omega) (show (-1 : Int) ≤ (x : Int) by omega) (by have := hx2.out; omega))
              have HH3 : Hid ((setT t2 k m (x : Int)).length = hh ∧ ∀ i, i < hh → wid (setT t2 k m (x : Int)) i = c) := ⟨by rw [setT_len]; exact HS2.out.1, fun i hi => by rw [setT_wid]; exact HS2.out.2 i hi⟩
              have R7 := Lib.hid (R6.out.kept (grow_set (b := gi) (grow_refl _ _) m (.int .i64 (x : Int))) (fun k e => by cases e; omega))
              have G7 := Lib.hid (grow_beside (grow_trans hg2 G6.out) (grow_set (b := gi) (grow_refl _ _) m (.int .i64 (x : Int))) hgi1)
              clear e1
              go_wp2_with fail
              go_roundw
              case rel => exact ⟨m + 1, _, _, by omega, by go_num, HS3.out, HD3.out, HH3, by omega, by omega, R7.out, G7.out⟩
              case measure => simp [intOf]; omega
          · go_wp2_with fail
            go_roundw
            case rel => exact ⟨k + 1, t2, q2, by omega, by go_num, HO2.out, hd2, hs2, by omega, by omega, hrd2, hg2⟩
            case measure => simp [intOf]; omega
      · have hkb : (k : Int) ≤ 4 := by omega
        have HO := Lib.hid ho
        obtain ⟨hs3, hs4⟩ := hs.out
        have ht1 : 1 ≤ t.length := by omega
        have HT := Lib.hid hs3
        have HW := Lib.hid hs4
        clear r5 g5 hs hs3 hs4
        go_wp2_with fail
        refine (pick_use _ B a len cap zs _ 40 hrd (by omega)).mono ?_
        rintro e w6 ⟨m, rfl, hm6, r6, g6⟩
        have O6 := Lib.hid (HO.out.kept g6 (fun k e => by cases e; exact hB))
        have G6 := grow_trans hg g6
        clear ho hrd hg g6
        by_cases m0 : m = 0
        · subst m0
          obtain ⟨gi, ci, hu, hcell, hgi1, hgi2, hgi3, hci1, hci2, hoi⟩ := O6.out.rowW (i := 0) (by omega)
          have hw0 := HW.out 0 (by omega)
          obtain ⟨hc0, hf0⟩ := O6.out.at (i := 0) (by omega) hu (j := 0) (by unfold wid at hw0; omega)
          generalize (t[0]?.getD [])[0]?.getD 0 = z0 at hc0
          rw [hw0] at hcell hu
          have HU := Lib.hid hu
          have HW0 := Lib.hid hw0
          have hki : (0 : Int) < (hh : Int) := by omega
          have hmi : (0 : Int) < (c : Int) := by omega
          have R6 := Lib.hid r6
          have hcA := fun o => (World.grownBy_alloc w6 o none).cell hcell (by simp)
          have hne : gi ≠ B := by omega
          have hneg : g ≠ B := by omega
          clear hu hoi r6 hw0 hm6
          go_wp2_with fail
          go_region_with (first
            | (go_at_call 18; (with_reducible refine (pick_use _ B a len cap zs (q' + 1) 3 ((R6.out.alloc _).drew) (by omega)).mono ?_); rintro e w7 ⟨y, rfl, hy, r7, g7⟩; obtain ⟨u, hu1, hu2, hu3⟩ := three_litB (-1) 100 99 y (-1) 100 (by omega) (by omega) (by omega) (by omega); have hz7 := cell_lit (ungrow_drew g7) R6.out.lt y _ hu3; have G7 : Hid (w6.grownBy w7 (some B)) := (grow_trans (World.grownBy_alloc _ _ _) (ungrow_drew g7)); have O7 := Lib.hid (O6.out.kept G7.out (fun k e => by cases e; exact hB)); have hc7 := G7.out.cell hcell (by simp; omega); have hcc7 := G7.out.cell hc0 (by simp; omega); have hff7 := (World.frozen?_of_block (a := ⟨gi, 0, none⟩) (G7.out.block gi hgi2 (by simp; omega))).trans hf0; have R7 := Lib.hid r7; have hy3 : (y : Int) < 3 := (by omega); clear hy g7 r7 hu3)
            | (go_at_call 18; (with_reducible refine (pick_use _ B a len cap zs (q' + 1) 3 R6.out.drew (by omega)).mono ?_); rintro e w7 ⟨y, rfl, hy, r7, g7⟩; obtain ⟨u, hu1, hu2, hu3⟩ := three_litB (-1) 100 99 y (-1) 100 (by omega) (by omega) (by omega) (by omega); have hz7 := fun t => (cell_new w7 #[.int .i64 (-1), .int .i64 100, .int .i64 99] t y).trans hu3; have G7 : Hid (w6.grownBy w7 (some B)) := ungrow_drew g7; have O7 := Lib.hid (O6.out.kept G7.out (fun k e => by cases e; exact hB)); have hc7 := G7.out.cell hcell (by simp; omega); have hc7A := fun o => (World.grownBy_alloc w7 o none).cell hc7 (by simp); have hcc7 := G7.out.cell hc0 (by simp; omega); have hff7 := (World.frozen?_of_block (a := ⟨gi, 0, none⟩) (G7.out.block gi hgi2 (by simp; omega))).trans hf0; have hccA := fun o => (World.grownBy_alloc w7 o none).cell hcc7 (by simp); have hffA := frozen_alloc' hcc7 hff7; have R7 := Lib.hid r7; have hy3 : (y : Int) < 3 := (by omega); clear hy g7 r7 hu3))
          all_goals
            have HD7 := Lib.hid (hd.out.set (i := 0) (j := 0) (x := u) (by omega) (by have := HW0.out; omega) hu1 hu2)
            go_wp2
            go_ret
            first
              | exact ⟨_, setT t 0 0 u, us, _, rfl, O7.out.setT (i := 0) (by omega) HU.out 0 u, HD7.out, by omega, by omega, R7.out.kept (grow_set (b := gi) (grow_refl _ _) 0 (.int .i64 u)) (fun k e => by cases e; omega), grow_beside (grow_trans G6 G7.out) (grow_set (b := gi) (grow_refl _ _) 0 (.int .i64 u)) hgi1⟩
              | exact ⟨_, setT t 0 0 u, us, _, rfl, (O7.out.alloc _).setT (i := 0) (by omega) HU.out 0 u, HD7.out, by omega, by omega, (R7.out.alloc _).kept (grow_set (b := gi) (grow_refl _ _) 0 (.int .i64 u)) (fun k e => by cases e; omega), grow_beside (grow_alloc (grow_trans G6 G7.out) _) (grow_set (b := gi) (grow_refl _ _) 0 (.int .i64 u)) hgi1⟩
        by_cases m1 : m = 1
        · subst m1
          obtain ⟨gi, ci, hu, hcell, hgi1, hgi2, hgi3, hci1, hci2, hoi⟩ := O6.out.rowW (i := 0) (by omega)
          have hw0 := HW.out 0 (by omega)
          have hui : us[0]?.getD (.slice none 0 0) = .slice (some ⟨gi, 0, none⟩) (wid t 0) ci := by rw [hu]; rfl
          rw [hw0] at hcell hui hoi
          have HUI := Lib.hid hui
          obtain ⟨r0, hr0⟩ : ∃ r0, t[0]?.getD [] = r0 := ⟨_, rfl⟩
          rw [hr0] at hoi
          have hrl : r0.length = c := by rw [← hr0]; exact hw0
          have HRL := Lib.hid hrl
          have HOI := Lib.hid hoi
          have HR0 := Lib.hid hr0
          have hki : (0 : Int) < (hh : Int) := by omega
          have hown0 : w6.ownsRow w.heap.size 3 1 (.slice (some ⟨gi, 0, none⟩) c ci) c (r0.map (Value.int .i64)) := by have := hoi.1; rw [hrl] at this; exact this
          clear hu hui hr0 hw0 hrl hm6
          go_wp2_with (at_builtin; refine wpList_append_own_at _ rfl _ _ 42 rfl w.heap.size 3 i0 (.int .i64 0) 1 8 Try.underlying42 hi hz0 hz1 hz2 rfl (by decide) _ _ _ rfl (hown0.alloc _) ⟨w6.heap.size, 0, none⟩ 1 1 [.int .i64 1] rfl rfl (cell_one_new _ _ _) (by simp [Value.oneCell']) ?c3 ?c4 ?c5 ?_)
          case c3 => unfold maxLen; omega
          case c4 => omega
          case c5 => have := G6.size; simp; omega
          intro v' w7 hown' hgrow hnil hat
          have hv7 : OwnI w7 w.heap.size v' (r0 ++ [1]) := ⟨by have := HRL.out; simpa [this] using hown', by simpa using hnil⟩
          have hg7 : w6.grownBy w7 (some gi) := grow_trans (World.grownBy_alloc _ _ _) hgrow
          have HS := Lib.hid (O6.out.setRow (w' := w7) (i := 0) (u := v') (r := r0 ++ [1]) (by omega) (by rw [HUI.out]; exact hg7) hv7 (by rw [HUI.out]; rcases hat with e | e; exact .inl e; exact .inr ⟨_, e, by simp⟩))
          have hcn : w7.cell? ⟨g, 0, none⟩ = some (.slice (some ⟨gi, 0, none⟩) c ci) := hg7.cell hcell (by simp; omega)
          have hfn : w7.frozen? ⟨g, 0, none⟩ = false := by
            have := O6.out.outer
            rw [HT.out] at this
            rw [← this.frozenAt 0]
            exact World.frozen?_of_block (hg7.block g (by have := (this.lt g rfl).2; exact this) (by simp; omega))
          have HD7 : Hid (TblD (t.set 0 (r0 ++ [1]))) := by
            refine ⟨by rw [List.length_set]; exact hd.out.1, fun i hi => ?_⟩
            rw [List.length_set] at hi
            obtain ⟨e1, e2, e3⟩ := hd.out.2 i hi
            have hw0 := HW.out 0 (by omega)
            by_cases e : i = 0
            · subst e
              have hl := HRL.out
              have hwd : wid (t.set 0 (r0 ++ [1])) 0 = c + 1 := by unfold wid; rw [getD_set hi, if_pos rfl]; simp [hl]
              rw [hwd]
              refine ⟨by omega, by omega, fun j hj => ?_⟩
              unfold cel
              rw [getD_set hi, if_pos rfl]
              by_cases ej : j < r0.length
              · rw [List.getElem?_append_left ej]
                have := e3 j (by omega)
                unfold cel at this
                rw [HR0.out] at this
                exact this
              · obtain rfl : j = r0.length := by omega
                simp
            · have hwd : wid (t.set 0 (r0 ++ [1])) i = wid t i := by unfold wid; rw [getD_set (by omega), if_neg e]
              rw [hwd]
              refine ⟨e1, e2, fun j hj => ?_⟩
              have : cel (t.set 0 (r0 ++ [1])) i j = cel t i j := by unfold cel; rw [getD_set (by omega), if_neg e]
              rw [this]; exact e3 j hj
          have R7 := Lib.hid ((r6.kept hg7 (fun k e => by cases e; omega)).kept (grow_set (b := g) (grow_refl _ _) 0 v') (fun k e => by cases e; omega))
          have G7 := Lib.hid (grow_beside (grow_beside G6 hg7 hgi1) (grow_set (b := g) (grow_refl _ _) 0 v') hgb')
          obtain ⟨g4, cp4, hv4, _⟩ := hv7.form
          rw [show (r0 ++ [(1 : Int)]).length = c + 1 by have := HRL.out; simp; omega] at hv4
          clear hown' hgrow hnil hat r6 hv7 hoi hown0
          subst hv4
          go_wp2_with fail
          go_ret
          exact ⟨_, t.set 0 (r0 ++ [1]), _, _, rfl, HS.out, HD7.out, by omega, by omega, R7.out, G7.out⟩
        by_cases m2 : m = 2
        · subst m2
          clear m0 m1
          go_wp2_with fail
          go_ret
          exact ⟨_, [], [], _, rfl, OwnU.empty w6 _ G6.size, ⟨by simp, fun i hi => by simp at hi⟩, by omega, by omega, r6.alloc _, grow_alloc G6 _⟩
        · have c0 : ((m : Int) == 0) = false := by simp; omega
          have c1 : ((m : Int) == 1) = false := by simp; omega
          have c2 : ((m : Int) == 2) = false := by simp; omega
          have R6 := Lib.hid r6
          clear m0 m1 m2
          go_wp2_with fail
          go_ret
          exact ⟨_, t, us, _, rfl, O6.out, hd.out, by omega, by omega, R6.out, G6⟩

theorem sTableI (w : World) (B : Nat) (a : Option Addr) (len cap : Nat) (zs : List Int) (p most : Int) (h : Rd w B a len cap zs p) (hp : p < 999000) (h0 : 0 ≤ most) (hm : most ≤ 30) :
    Calls Try.prog 41 #[.pointer (some ⟨B, 0, none⟩), .int .i64 most] w (DrewTab w B a len cap zs p) := by
  obtain ⟨k, rfl⟩ := Int.eq_ofNat_of_zero_le h0
  exact sTable w B a len cap zs p k h hp (by omega)

end Go.Proofs.Ytdlpcoafbmhjjaa
