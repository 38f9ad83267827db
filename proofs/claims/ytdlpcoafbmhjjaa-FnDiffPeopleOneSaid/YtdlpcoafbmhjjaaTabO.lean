/- Contract: TableOf of the program. -/
import Derived.Test.YtdlpcoafbmhjjaaPplA
import Derived.Test.YtdlpcoafbmhjjaaRisk
import Derived.Test.YtdlpcoafbmhjjaaTurn
namespace Go.Proofs.Ytdlpcoafbmhjjaa
open Go.RowKit

/-- how many persons have an area and a job -/
def cnt (ps : List Pers) (i j : Nat) : Int := (ps.countP (fun p => decide (p.1 = (i : Int)) && decide (p.2.1 = (j : Int))) : Nat)
/-- the table of people -/
def cntT (ps : List Pers) : List (List Int) := mkT 4 4 (cnt ps)
/-- a table under way -/
def cntTo (ps : List Pers) (T : List (List Int)) : Prop := T.length = 4 ∧ (∀ i, i < 4 → wid T i = 4) ∧ ∀ i j, i < 4 → j < 4 → cel T i j = cnt ps i j
theorem cnt_snoc (ps : List Pers) (p : Pers) (i j : Nat) : cnt (ps ++ [p]) i j = cnt ps i j + if p.1 = (i : Int) ∧ p.2.1 = (j : Int) then 1 else 0 := by
  unfold cnt
  rw [List.countP_append, Int.natCast_add]
  congr 1
  by_cases h1 : p.1 = (i : Int) <;> by_cases h2 : p.2.1 = (j : Int) <;> simp [h1, h2]
theorem cnt_bd (ps : List Pers) (i j : Nat) : 0 ≤ cnt ps i j ∧ cnt ps i j ≤ ps.length := by
  unfold cnt
  have := List.countP_le_length (p := fun p : Pers => decide (p.1 = (i : Int)) && decide (p.2.1 = (j : Int))) (l := ps)
  omega
theorem cntTo_zero : cntTo [] (zeroT 4 4) := ⟨by simp [zeroT], fun i hi => zeroT_wid hi, fun i j _ _ => by rw [zeroT_cel]; rfl⟩
theorem cntTo_snoc {ps : List Pers} {T : List (List Int)} (h : cntTo ps T) {p : Pers} {a j : Nat} (ha : p.1 = (a : Int)) (hj : p.2.1 = (j : Int)) (ha4 : a < 4) (hj4 : j < 4) {z : Int} (hz : z = cel T a j + 1) : cntTo (ps ++ [p]) (setT T a j z) := by
  subst hz
  obtain ⟨h1, h2, h3⟩ := h
  refine ⟨by rw [setT_len]; exact h1, fun i hi => by rw [setT_wid]; exact h2 i hi, fun x y hx hy => ?_⟩
  rw [setT_cel (by omega) (by rw [h2 a ha4]; exact hj4), cnt_snoc, ha, hj]
  by_cases e : x = a ∧ y = j
  · obtain ⟨rfl, rfl⟩ := e
    rw [if_pos ⟨rfl, rfl⟩, if_pos ⟨rfl, rfl⟩, h3 x y hx hy]
  · rw [if_neg e, h3 x y hx hy, if_neg (fun h => e ⟨by omega, by omega⟩), Int.add_zero]
theorem cntTo_all {ps : List Pers} {T : List (List Int)} (h : cntTo ps T) : T = cntT ps := by
  obtain ⟨h1, h2, h3⟩ := h
  refine tab_ext ⟨by rw [cntT, mkT_len]; exact h1, fun i hi => by rw [h2 i (by omega), cntT, mkT_wid (by omega)]⟩ (fun i j hi hj => ?_)
  rw [h1] at hi
  rw [h2 i hi] at hj
  rw [h3 i j hi hj, cntT, mkT_cel hi hj]
theorem cntT_ok {ps : List Pers} (h : ps.length ≤ 40) : tblOk (cntT ps) := by
  have w0 : wid (cntT ps) 0 = 4 := mkT_wid (by omega)
  refine ⟨by rw [cntT, mkT_len]; omega, by rw [cntT, mkT_len]; omega, by omega, by omega, fun i hi => ?_⟩
  rw [cntT, mkT_len] at hi
  refine ⟨by rw [w0, cntT, mkT_wid hi], fun j hj => ?_⟩
  rw [w0] at hj
  rw [cntT, mkT_cel hi hj]
  have := cnt_bd ps i j
  omega

set_option maxRecDepth 100000 in
set_option maxHeartbeats 2000000 in
theorem iTableOf (w : World) (P : Nat → Prop) (v : Value) (ps : List Pers) (h : PplS w P v ps) (hok : pplOk ps) :
    Calls Try.prog 9 #[v] w fun e w' => ∃ g cap us, e = .returned (.tuple #[.slice (some ⟨g, 0, none⟩) 4 cap, .bool true]) ∧ OwnU w' w.heap.size (.slice (some ⟨g, 0, none⟩) 4 cap) (cntT ps) us ∧ Below w.heap.size w w' := by
  have H := Lib.hid (h.mono (Q := (· < w.heap.size)) (fun _ _ h => h))
  obtain ⟨a, cap, rfl, _, _⟩ := h
  have D : Hid (decide (pplOk ps) = true) := decide_eq_true hok
  have HOK := Lib.hid hok
  have hl : ps.length ≤ 40 := hok.2
  clear hok
  go_enter Try.func9, Try.ntmps9
  go_wp2_with fail
  with_reducible refine (iPeopleValid _ _ _ ps H.out (by omega)).mono ?_
  rintro e w1 ⟨rfl, b1⟩
  rw [D.out]
  have B1 := Lib.hid b1
  clear b1
  go_wp2_with fail
  refine (iEmptyTable _ 4 4 (by omega) (by omega)).mono ?_
  rintro e w2 ⟨vt, us, rfl, ho, b2⟩
  obtain ⟨g, cp, rfl, _, _, _, _⟩ := ho.form
  have hz : (zeroT 4 4).length = 4 := by simp [zeroT]
  rw [hz] at ho
  have HO : Hid (OwnU w2 w.heap.size (.slice (some ⟨g, 0, none⟩) 4 cp) (zeroT 4 4) us) := ho.mono B1.out.size
  have B2 := Lib.hid (B1.out.trans (b2.mono B1.out.size))
  have HZ : Hid (cntTo (ps.take 0) (zeroT 4 4)) := cntTo_zero
  clear ho b2
  rw [hz]
  clear hz
  go_wp2_with fail
  go_loopw [13] (fun i wr => ∃ (k : Nat) (T : List (List Int)), k ≤ ps.length ∧ i = .int .i64 k ∧ Hid (OwnU wr w.heap.size (.slice (some ⟨g, 0, none⟩) 4 cp) T us) ∧ Hid (cntTo (ps.take k) T) ∧ Hid (Below w.heap.size w wr)) (fun i _ => ps.length - (intOf i).toNat)
  case atStart => exact ⟨0, _, Nat.zero_le _, rfl, HO, HZ, B2⟩
  case round =>
    obtain ⟨k, T, hk, rfl, hT, hc, hbl⟩ := hrel
    by_cases hlt : k < ps.length
    · obtain ⟨_, _, ea, _, ra⟩ := H.out.below hbl.out
      cases ea
      obtain ⟨b, off, rfl, _, hcc⟩ := ra k hlt
      have q0 := hcc 0 (by omega)
      have q1 := hcc 1 (by omega)
      have q2 := hcc 2 (by omega)
      have q3 := hcc 3 (by omega)
      have hp := HOK.out.1 k hlt
      obtain ⟨p, hpe⟩ : ∃ p, ps[k]?.getD p0 = p := ⟨_, rfl⟩
      rw [hpe] at q0 q1 q2 q3 hp
      have HPE : Hid (ps.take (k + 1) = ps.take k ++ [p]) := by
        unfold Hid
        rw [List.take_succ_eq_append_getElem hlt, ← hpe, List.getElem?_eq_getElem hlt]; rfl
      obtain ⟨a, j, s, y⟩ := p
      obtain ⟨⟨ha1, ha2⟩, ⟨hj1, hj2⟩, _⟩ := hp
      simp only at ha1 ha2 hj1 hj2
      simp only [pc, Nat.add_zero] at q0 q1 q2 q3
      obtain ⟨an, rfl⟩ : ∃ an : Nat, a = (an : Int) := ⟨a.toNat, by omega⟩
      obtain ⟨jn, rfl⟩ : ∃ jn : Nat, j = (jn : Int) := ⟨j.toNat, by omega⟩
      have hTl : an < T.length := by rw [hc.out.1]; omega
      have hwT : wid T an = 4 := hc.out.2.1 an (by omega)
      have hbx : Hid (Below w.heap.size w (wr.alloc (.cells #[.int .i64 (an : Int), .int .i64 (jn : Int), .int .i64 s, .int .i64 y] 46))) := hbl.out.alloc hbl.out.size _
      have HT1 := Lib.hid (hT.out.alloc (.cells #[.int .i64 (an : Int), .int .i64 (jn : Int), .int .i64 s, .int .i64 y] 46))
      have kn : (k : Int) < (ps.length : Int) := by omega
      clear ra hcc hpe hT hbl
      go_wp2_with fail
      have c0 : (wr.alloc (.cells #[.int .i64 (an : Int), .int .i64 (jn : Int), .int .i64 s, .int .i64 y] 46)).cell? ⟨wr.heap.size, 0, none⟩ = some (.int .i64 (an : Int)) := by rw [cell_new]; rfl
      have c1 : (wr.alloc (.cells #[.int .i64 (an : Int), .int .i64 (jn : Int), .int .i64 s, .int .i64 y] 46)).cell? ⟨wr.heap.size, 1, none⟩ = some (.int .i64 (jn : Int)) := by rw [cell_new]; rfl
      generalize wr.alloc (.cells #[.int .i64 (an : Int), .int .i64 (jn : Int), .int .i64 s, .int .i64 y] 46) = wa at *
      generalize wr.heap.size = bx at *
      obtain ⟨gi, ci, hu, hrow, hgi, _, _, _, _, _⟩ := HT1.out.rowW hTl
      obtain ⟨hcel, hfrz⟩ := HT1.out.at hTl hu (j := jn) (by unfold wid at hwT; omega)
      change wa.cell? ⟨gi, jn, none⟩ = some (.int .i64 (cel T an jn)) at hcel
      rw [hwT] at hrow
      obtain ⟨z, hz⟩ : ∃ z, cel T an jn = z := ⟨_, rfl⟩
      have hzb : 0 ≤ z ∧ z ≤ 40 := by
        rw [← hz, hc.out.2.2 an jn (by omega) (by omega)]
        have := cnt_bd (ps.take k) an jn
        rw [List.length_take] at this
        omega
      have HCN : Hid (cntTo (ps.take (k + 1)) (setT T an jn (z + 1))) := by
        unfold Hid
        rw [HPE.out]
        exact cntTo_snoc hc.out rfl rfl (by omega) (by omega) (by rw [hz])
      rw [hz] at hcel
      have HU := Lib.hid hu
      have a4 : (an : Int) < 4 := ha2
      have j4 : (jn : Int) < 4 := hj2
      clear hz hu q0 q1 q2 q3 hc HPE
      refine tail_plain 11 (by kernel_rfl) (by kernel_rfl) ?_
      simp only [List.take_succ_cons, List.take_zero, List.drop_succ_cons, List.drop_zero]
      replace HT1 := Lib.hid (HT1.out.drewN 1)
      replace hbx := Lib.hid (hbx.out.drew)
      change wa.drew.cell? _ = _ at c0 c1 hrow hcel
      change wa.drew.frozen? _ = _ at hfrz
      change Hid (OwnU wa.drew _ _ _ _) at HT1
      generalize wa.drew = wd at *
      repeat still_step
      refine wpStill_nil ?_
      have HX2 := Lib.hid (OwnU.setT HT1.out hTl HU.out jn (z + 1))
      have HB2 := Lib.hid (hbx.out.setCell (p := ⟨gi, jn, none⟩) (by simp; omega) (.int .i64 (z + 1)))
      go_wp2_with fail
      go_roundw
      case rel => exact ⟨k + 1, _, by omega, by go_num, HX2, HCN, HB2⟩
      case measure => simp [intOf]; omega
    · have HE : Hid (T = cntT ps) := cntTo_all (by have := hc.out; rwa [List.take_of_length_le (by omega)] at this)
      go_wp2_with fail
      go_ret2
      exact ⟨g, cp, us, rfl, by rw [← HE.out]; exact hT.out, hbl.out⟩

end Go.Proofs.Ytdlpcoafbmhjjaa
