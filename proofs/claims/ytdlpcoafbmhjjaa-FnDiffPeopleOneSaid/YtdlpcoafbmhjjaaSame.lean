/- Contracts: DiffSame, DiffPeople of the program, for a part of a list. (Printed by wip/tools/mkSame.py.) -/
import Derived.Test.YtdlpcoafbmhjjaaMapP
import Derived.Test.YtdlpcoafbmhjjaaRegW
import Derived.Test.YtdlpcoafbmhjjaaPplA
import Derived.WalkKit
namespace Go.Proofs.Ytdlpcoafbmhjjaa
open Go.RowKit
open Go.ChangeMaps (setBlock heap_setBlock_same heap_setBlock_other)

/-- how often a person stands in a list -/
def cN (l : List Pers) (q : Pers) : Int := (l.count q : Nat)
theorem cN_nil (q : Pers) : cN [] q = 0 := rfl
theorem cN_nonneg (l : List Pers) (q : Pers) : 0 ≤ cN l q := by unfold cN; omega
theorem cN_le (l : List Pers) (q : Pers) : cN l q ≤ l.length := by unfold cN; have := List.count_le_length (a := q) (l := l); omega
theorem cN_snoc (l : List Pers) (p q : Pers) : cN (l ++ [p]) q = if q = p then cN l p + 1 else cN l q := by
  unfold cN
  rw [List.count_append, List.count_singleton]
  by_cases e : q = p
  · subst e; simp
  · have : (p == q) = false := by simp; exact fun h => e h.symm
    rw [this]; simp [e]
theorem cN_erase {l : List Pers} {p : Pers} (h : 0 < cN l p) (q : Pers) : cN (l.erase p) q = if q = p then cN l p - 1 else cN l q := by
  unfold cN at *
  rw [List.count_erase]
  by_cases e : q = p
  · subst e; simp; omega
  · have : (p == q) = false := by simp; exact fun h => e h.symm
    rw [this]; simp [e]
theorem erase_len {l : List Pers} {p : Pers} (h : 0 < cN l p) : (l.erase p).length + 1 = l.length := by
  unfold cN at h
  have hm : p ∈ l := List.count_pos_iff.1 (by omega)
  have h1 := List.length_erase_of_mem hm
  have h2 := List.length_pos_of_mem hm
  omega
theorem all_gone {l : List Pers} (h : ∀ q, cN l q ≤ 0) : l = [] := by
  cases l with
  | nil => rfl
  | cons p r =>
    have := h p
    unfold cN at this
    rw [List.count_cons_self] at this
    omega

/-- the region in which a map's place is written: d1: the place has been laid; d2: it has been filled -/
def SameG (w0 : World) (B bx : Nat) (a j s y : Int) (es : Array MapEntry) (clock : Nat) (es1 : Array MapEntry) (clock1 : Nat) (es2 : Array MapEntry) (d1 d2 : Bool) (W : World) : Prop :=
  Below w0.heap.size w0 W ∧ W.heap[B]? = some (.map (if d2 then es2 else if d1 then es1 else es) (if d2 then clock1 else if d1 then clock1 else clock)) ∧
    W.cell? ⟨bx, 0, none⟩ = some (.int .i64 a) ∧ W.cell? ⟨bx, 0 + 1, none⟩ = some (.int .i64 j) ∧ W.cell? ⟨bx, 0 + 2, none⟩ = some (.int .i64 s) ∧ W.cell? ⟨bx, 0 + 3, none⟩ = some (.int .i64 y)
/-- the values of its operations -/
def SameF (B : Nat) (a j s y c z : Int) (v0 : Value) (st : Nat) : Nat → Value → Prop
  | 0, v => v = .map (some B)
  | 1, v => v = .agg #[.int .i64 a, .int .i64 j, .int .i64 s, .int .i64 y]
  | 2, v => v = .int .i64 c
  | 3, v => v = .int .i64 z
  | 4, v => v = .tuple #[v0, goInt st]
  | 5, v => v = goInt st
  | _, _ => True

set_option maxRecDepth 100000 in
set_option maxHeartbeats 4000000 in
theorem iDiffSame (w : World) (P Q : Nat → Prop) (va vb : Value) (us vs : List Pers) (h : PplS w P va us) (h2 : PplS w Q vb vs) (ha : pplOk us) (hb : pplOk vs) (hsub : ∀ q, cN vs q ≤ cN us q) :
    Calls Try.prog 25 #[va, vb] w fun e w' => e = .returned (.int .i64 (vs.length : Int)) ∧ Below w.heap.size w w' := by
  have HA := Lib.hid h
  have HB := Lib.hid h2
  obtain ⟨aa, ca, rfl, _, _⟩ := h
  obtain ⟨ab, cb, rfl, _, _⟩ := h2
  have DA : Hid (decide (pplOk us) = true) := decide_eq_true ha
  have DB : Hid (decide (pplOk vs) = true) := decide_eq_true hb
  have KA := Lib.hid ha
  have KB := Lib.hid hb
  have HSUB := Lib.hid hsub
  have la : us.length ≤ 40 := ha.2
  have lb : vs.length ≤ 40 := hb.2
  have hmm := @run_makeMap Try.prog
  clear ha hb hsub
  go_enter Try.func25, Try.ntmps25
  go_wp2_with fail
  with_reducible refine (iPeopleValid _ _ _ us HA.out (by omega)).mono ?_
  rintro e w1 ⟨rfl, b1⟩
  rw [DA.out]
  have B1 := Lib.hid b1
  have HB1 := Lib.hid (HB.out.below b1)
  clear b1
  go_wp2_with fail
  with_reducible refine (iPeopleValid _ _ _ vs HB1.out (by omega)).mono ?_
  rintro e w2 ⟨rfl, b2⟩
  rw [DB.out]
  have B2 := Lib.hid (B1.out.trans (b2.mono B1.out.size))
  have hs2 : w.heap.size ≤ w2.heap.size := B2.out.size
  have HM0 : Hid (MapP (w2.alloc (.map #[] 0)) w2.heap.size (cN (vs.take 0))) := (MapP.made w2).congr (fun q => rfl)
  have B3 : Hid (Below w.heap.size w (w2.alloc (.map #[] 0))) := B2.out.alloc hs2 _
  clear b2 HB1
  go_wp2_with fail
  go_loopw [22] (fun i wr => ∃ k : Nat, k ≤ vs.length ∧ i = .int .i64 k ∧ Hid (MapP wr w2.heap.size (cN (vs.take k))) ∧ Hid (Below w.heap.size w wr)) (fun i _ => vs.length - (intOf i).toNat)
  case atStart => exact ⟨0, Nat.zero_le _, rfl, HM0, B3⟩
  case round =>
    obtain ⟨k, hk, rfl, hm, hbl⟩ := hrel
    by_cases hlt : k < vs.length
    · obtain ⟨_, _, ea, _, ra⟩ := HB.out.below hbl.out
      cases ea
      obtain ⟨b, off, rfl, _, hcc⟩ := ra k hlt
      have hp := KB.out.1 k hlt
      obtain ⟨p, hpe⟩ : ∃ p, vs[k]?.getD p0 = p := ⟨_, rfl⟩
      have HPE : Hid (vs.take (k + 1) = vs.take k ++ [p]) := by
        unfold Hid
        rw [List.take_succ_eq_append_getElem hlt, ← hpe, List.getElem?_eq_getElem hlt]; rfl
      obtain ⟨c, hce⟩ : ∃ c, cN (vs.take k) p = c := ⟨_, rfl⟩
      have hcb : 0 ≤ c ∧ c ≤ 40 := by
        rw [← hce]
        have h1 := cN_nonneg (vs.take k) p
        have h2 := cN_le (vs.take k) p
        rw [List.length_take] at h2
        omega
      have HFN : Hid (∀ q, (if q = p then c + 1 else cN (vs.take k) q) = cN (vs.take (k + 1)) q) := fun q => by rw [HPE.out, cN_snoc, hce]
      have hz : IntKind.i64.wrap (c + 1) = c + 1 := by rw [IntKind.wrap_i64]; omega
      obtain ⟨a, j, s, y⟩ := p
      have q0 := hcc 0 (by omega)
      have q1 := hcc 1 (by omega)
      have q2 := hcc 2 (by omega)
      have q3 := hcc 3 (by omega)
      rw [hpe] at q0 q1 q2 q3 hp
      simp only [pc, Nat.add_zero] at q0 q1 q2 q3
      have HP := Lib.hid hp
      have hblt : w2.heap.size < wr.heap.size := hm.out.lt
      have HBA : Hid (Below w.heap.size w (wr.alloc (.cells #[.int .i64 a, .int .i64 j, .int .i64 s, .int .i64 y] 46))) := hbl.out.alloc hbl.out.size _
      have HMA := Lib.hid (hm.out.kept (World.grownBy_alloc wr (.cells #[.int .i64 a, .int .i64 j, .int .i64 s, .int .i64 y] 46) none) (by simp))
      have c0 : (wr.alloc (.cells #[.int .i64 a, .int .i64 j, .int .i64 s, .int .i64 y] 46)).cell? ⟨wr.heap.size, 0, none⟩ = some (.int .i64 a) := by rw [cell_new]; rfl
      have c1 : (wr.alloc (.cells #[.int .i64 a, .int .i64 j, .int .i64 s, .int .i64 y] 46)).cell? ⟨wr.heap.size, 0 + 1, none⟩ = some (.int .i64 j) := by rw [cell_new]; rfl
      have c2 : (wr.alloc (.cells #[.int .i64 a, .int .i64 j, .int .i64 s, .int .i64 y] 46)).cell? ⟨wr.heap.size, 0 + 2, none⟩ = some (.int .i64 s) := by rw [cell_new]; rfl
      have c3 : (wr.alloc (.cells #[.int .i64 a, .int .i64 j, .int .i64 s, .int .i64 y] 46)).cell? ⟨wr.heap.size, 0 + 3, none⟩ = some (.int .i64 y) := by rw [cell_new]; rfl
      clear hcc hpe hm hbl ra hp
      have kn : (k : Int) < (vs.length : Int) := by omega
      go_wp2_with fail
      generalize wr.alloc (.cells #[.int .i64 a, .int .i64 j, .int .i64 s, .int .i64 y] 46) = wa at *
      generalize wr.heap.size = bx at *
      obtain ⟨es, clock, hb0, E0⟩ := HMA.out
      obtain ⟨v0, st, es1, clock1, E1, ⟨jj, e0, hj0, hk0, rfl⟩, hME⟩ := E0.entry HP.out
      obtain ⟨es2, E2, hES⟩ := E1.store (c + 1) hj0 hk0
      have hL0 : ∀ W : World, W.heap[w2.heap.size]? = some (.map es clock) → (Instr.lookup 70 (.map (some w2.heap.size)) (.agg #[.int .i64 a, .int .i64 j, .int .i64 s, .int .i64 y]) false).run Try.prog W = .ok (.int .i64 c) W := fun W hW => by have := E0.look HP.out hW; rw [hce] at this; exact this
      have hL1 : ∀ W : World, W.heap[w2.heap.size]? = some (.map es1 clock1) → (Instr.lookup 70 (.map (some w2.heap.size)) (.agg #[.int .i64 a, .int .i64 j, .int .i64 s, .int .i64 y]) false).run Try.prog W = .ok (.int .i64 c) W := fun W hW => by have := E1.look HP.out hW; rw [hce] at this; exact this
      have hME' : ∀ W : World, W.heap[w2.heap.size]? = some (.map es clock) → (Instr.mapEntry 70 (.map (some w2.heap.size)) (.agg #[.int .i64 a, .int .i64 j, .int .i64 s, .int .i64 y])).run Try.prog W = .ok (.tuple #[v0, goInt e0.born]) (setBlock W w2.heap.size (.map es1 clock1)) := fun W hW => hME W _ hW
      have hES' : ∀ W : World, W.heap[w2.heap.size]? = some (.map es1 clock1) → (Instr.entryStore 70 (.map (some w2.heap.size)) (goInt e0.born) (.int .i64 (c + 1))).run Try.prog W = .ok () (setBlock W w2.heap.size (.map es2 clock1)) := fun W hW => hES W _ hW
      clear hME hES
      refine region_sw (by kernel_rfl) (by kernel_rfl) (by kernel_rfl) (fun bt W => SameG w w2.heap.size bx a j s y es clock es1 clock1 es2 (bt 4) (bt 6) W) (fun k v _ => SameF w2.heap.size a j s y c (c + 1) v0 e0.born k v) ?start ?step ?fin
      case start => exact ⟨HBA.out.drew, hb0, c0, c1, c2, c3⟩
      case step =>
        intro A W bt hG hf i o ho hni hcl hwt hdep
        have e5 : A.eval (.tmp 5) = .map (some w2.heap.size) := hf 5 (by kernel_rfl)
        have e7 : A.eval (.tmp 7) = .pointer (some ⟨bx, 0, none⟩) := hf 7 (by kernel_rfl)
        obtain ⟨gb, gm, g0, g1, g2, g3⟩ := id hG
        have hG2 : ∀ k, k ≠ 4 → k ≠ 6 → SameG w w2.heap.size bx a j s y es clock es1 clock1 es2 (if 4 = k then true else bt 4) (if 6 = k then true else bt 6) W := fun k h1 h2 => by
          rw [if_neg (Ne.symm h1), if_neg (Ne.symm h2)]; exact hG
        rcases i with _ | i
        · cases ho
          exact ⟨rfl, _, rfl, hG2 0 (by decide) (by decide), e5, fun _ _ _ h => h⟩
        rcases i with _ | i
        · cases ho
          exact ⟨rfl, op_val (v := .agg #[.int .i64 a, .int .i64 j, .int .i64 s, .int .i64 y]) (w' := W) (by simp only [Nat.zero_add] at g1 g2 g3; simp [go_sem, evT e7, g0, g1, g2, g3]) ⟨_, rfl, hG2 1 (by decide) (by decide), rfl, fun _ _ _ h => h⟩⟩
        rcases i with _ | i
        · cases ho
          have h1 : A.eval (.tmp 26) = .map (some w2.heap.size) := hdep 0 (by kernel_rfl) _ rfl
          have h2 : A.eval (.tmp 27) = .agg #[.int .i64 a, .int .i64 j, .int .i64 s, .int .i64 y] := hdep 1 (by kernel_rfl) _ rfl
          have hd : bt 6 = false := by
            cases hb : bt 6 with
            | false => rfl
            | true =>
              have k0 := hcl 6 _ hb rfl 3 (by kernel_rfl)
              have k1 := hcl 3 _ k0 rfl 2 (by kernel_rfl)
              rw [hni] at k1; cases k1
          have hrun : (Instr.lookup 70 (.map (some w2.heap.size)) (.agg #[.int .i64 a, .int .i64 j, .int .i64 s, .int .i64 y]) false).run Try.prog W = .ok (.int .i64 c) W := by
            rw [hd] at gm
            cases h4 : bt 4 with
            | false => rw [h4] at gm; exact hL0 W gm
            | true => rw [h4] at gm; exact hL1 W gm
          exact ⟨rfl, op_val (v := .int .i64 c) (w' := W) (by simp [go_sem, evT h1, evT h2, hrun]) ⟨_, rfl, hG2 2 (by decide) (by decide), rfl, fun _ _ _ h => h⟩⟩
        rcases i with _ | i
        · cases ho
          have h1 : A.eval (.tmp 28) = .int .i64 c := hdep 2 (by kernel_rfl) _ rfl
          exact ⟨rfl, op_val (v := .int .i64 (c + 1)) (w' := W) (by simp [go_sem, evT h1, hz]) ⟨_, rfl, hG2 3 (by decide) (by decide), rfl, fun _ _ _ h => h⟩⟩
        rcases i with _ | i
        · cases ho
          have h1 : A.eval (.tmp 26) = .map (some w2.heap.size) := hdep 0 (by kernel_rfl) _ rfl
          have h2 : A.eval (.tmp 27) = .agg #[.int .i64 a, .int .i64 j, .int .i64 s, .int .i64 y] := hdep 1 (by kernel_rfl) _ rfl
          have hd : bt 6 = false := by
            cases hb : bt 6 with
            | false => rfl
            | true =>
              have k0 := hcl 6 _ hb rfl 5 (by kernel_rfl)
              have k1 := hcl 5 _ k0 rfl 4 (by kernel_rfl)
              rw [hni] at k1; cases k1
          rw [hd, hni] at gm
          have hrun := hME' W gm
          have hg := grow_setBlock gm (.map es1 clock1)
          refine ⟨rfl, op_val (v := .tuple #[v0, goInt e0.born]) (w' := setBlock W w2.heap.size (.map es1 clock1)) (by simp [go_sem, evT h1, evT h2, hrun]) ⟨_, rfl, ?_, rfl, fun _ _ _ h => h⟩⟩
          refine ⟨gb.grown hg gb.size (fun k e => by cases e; exact hs2), ?_, hg.cell g0 (by simp; omega), hg.cell g1 (by simp; omega), hg.cell g2 (by simp; omega), hg.cell g3 (by simp; omega)⟩
          simp only [hd]
          simpa using heap_setBlock_same gm _
        rcases i with _ | i
        · cases ho
          have h1 : A.eval (.tmp 30) = .tuple #[v0, goInt e0.born] := hdep 4 (by kernel_rfl) _ rfl
          exact ⟨rfl, op_val (v := goInt e0.born) (w' := W) (by simp [go_sem, evT h1]) ⟨_, rfl, hG2 5 (by decide) (by decide), rfl, fun _ _ _ h => h⟩⟩
        rcases i with _ | i
        · cases ho
          have h1 : A.eval (.tmp 26) = .map (some w2.heap.size) := hdep 0 (by kernel_rfl) _ rfl
          have h2 : A.eval (.tmp 31) = goInt e0.born := hdep 5 (by kernel_rfl) _ rfl
          have h3 : A.eval (.tmp 29) = .int .i64 (c + 1) := hdep 3 (by kernel_rfl) _ rfl
          have h4 : bt 4 = true := hcl 5 _ (hwt 5 (by kernel_rfl)) rfl 4 (by kernel_rfl)
          rw [hni, h4] at gm
          have hrun : (Instr.entryStore 70 (.map (some w2.heap.size)) (.int .i64 (e0.born : Int)) (.int .i64 (c + 1))).run Try.prog W = .ok () (setBlock W w2.heap.size (.map es2 clock1)) := hES' W gm
          have hg := grow_setBlock gm (.map es2 clock1)
          refine ⟨rfl, op_skip (w' := setBlock W w2.heap.size (.map es2 clock1)) (by simp [go_sem, evT h1, evT h2, evT h3, hrun]) ⟨_, rfl, ?_, trivial, fun _ _ _ h => h⟩⟩
          refine ⟨gb.grown hg gb.size (fun k e => by cases e; exact hs2), ?_, hg.cell g0 (by simp; omega), hg.cell g1 (by simp; omega), hg.cell g2 (by simp; omega), hg.cell g3 (by simp; omega)⟩
          simpa using heap_setBlock_same gm _
        · cases ho
      case fin =>
        intro A W bt hsz' hdf hG hall hold hfact
        obtain ⟨gb, gm, _⟩ := hG
        rw [hall 6 (by simp)] at gm
        have HM2 : Hid (MapP W w2.heap.size (cN (vs.take (k + 1)))) := MapP.congr ⟨es2, clock1, gm, E2⟩ HFN.out
        have HB2 := Lib.hid gb
        obtain ⟨f, rfl⟩ := frame_lit [26, 27, 28, 29, 30, 31] (by kernel_rfl) hsz' hdf hold
        clear hsz' hdf hall hold hfact gm gb HMA HBA hL0 hL1 hME' hES' E0 E1 E2 hb0
        simp only [List.foldl_cons, List.foldl_nil, List.setIfInBounds_toArray, List.set_cons_succ, List.set_cons_zero]
        go_wp2_with fail
        go_roundw
        case rel => exact ⟨k + 1, by omega, by go_num, HM2, HB2⟩
        case measure => simp [intOf]; omega
    · have HEB : Hid (MapP wr w2.heap.size (cN vs)) := by have := hm.out; rwa [List.take_of_length_le (by omega)] at this
      clear hm
      go_wp2_with fail
      go_loopw [8, 35] (fun s i wr => ∃ (k : Nat) (L : List Pers), k ≤ us.length ∧ i = .int .i64 k ∧ L.length ≤ vs.length ∧ s = .int .i64 ((vs.length : Int) - (L.length : Int)) ∧ Hid (∀ q, cN L q ≤ 0 ∨ cN L q = cN vs q - cN (us.take k) q) ∧ Hid (MapP wr w2.heap.size (cN L)) ∧ Hid (Below w.heap.size w wr)) (fun _ i _ => us.length - (intOf i).toNat)
      case atStart => exact ⟨0, vs, Nat.zero_le _, rfl, Nat.le_refl _, by simp, fun q => .inr (by rw [List.take_zero, cN_nil]; omega), HEB, hbl⟩
      case round =>
        clear HEB hbl
        obtain ⟨k, L, hk, rfl, hll, rfl, hL, hm, hbl⟩ := hrel
        by_cases hlt : k < us.length
        · obtain ⟨_, _, ea, _, ra⟩ := HA.out.below hbl.out
          cases ea
          obtain ⟨b, off, rfl, _, hcc⟩ := ra k hlt
          have hp := KA.out.1 k hlt
          obtain ⟨p, hpe⟩ : ∃ p, us[k]?.getD p0 = p := ⟨_, rfl⟩
          have HPE : Hid (us.take (k + 1) = us.take k ++ [p]) := by
            unfold Hid
            rw [List.take_succ_eq_append_getElem hlt, ← hpe, List.getElem?_eq_getElem hlt]; rfl
          obtain ⟨c, hce⟩ : ∃ c, cN L p = c := ⟨_, rfl⟩
          have hcb : 0 ≤ c ∧ c ≤ 40 := by
            rw [← hce]
            have h1 := cN_nonneg L p
            have h2 := cN_le L p
            omega
          have kn : (k : Int) < (us.length : Int) := by omega
          by_cases hpos : 0 < c
          · have HER : Hid ((L.erase p).length + 1 = L.length) := erase_len (by rw [hce]; exact hpos)
            have HFN : Hid (∀ q, (if q = p then c - 1 else cN L q) = cN (L.erase p) q) := fun q => by rw [cN_erase (by rw [hce]; exact hpos), hce]
            have HLN : Hid (∀ q, cN (L.erase p) q ≤ 0 ∨ cN (L.erase p) q = cN vs q - cN (us.take (k + 1)) q) := fun q => by
              rw [cN_erase (by rw [hce]; exact hpos), HPE.out, cN_snoc]
              by_cases e : q = p
              · subst e
                rw [if_pos rfl, if_pos rfl]
                have := hL.out q
                omega
              · rw [if_neg e, if_neg e]; exact hL.out q
            have hz : IntKind.i64.wrap (c - 1) = c - 1 := by rw [IntKind.wrap_i64]; omega
            have dpos : decide (0 < c) = true := by simpa using hpos
            obtain ⟨L2, hL2⟩ : ∃ L2, L.erase p = L2 := ⟨_, rfl⟩
            rw [hL2] at HER HFN HLN
            obtain ⟨lr, hlr⟩ : ∃ lr, L2.length = lr := ⟨_, rfl⟩
            have hll2 : L.length = lr + 1 := by have := HER.out; omega
            rw [hll2] at hll ⊢
            have HLR := Lib.hid hlr
            clear hlr hpos hll2 hL2
            obtain ⟨a, j, s, y⟩ := p
            have q0 := hcc 0 (by omega)
            have q1 := hcc 1 (by omega)
            have q2 := hcc 2 (by omega)
            have q3 := hcc 3 (by omega)
            rw [hpe] at q0 q1 q2 q3 hp
            simp only [pc, Nat.add_zero] at q0 q1 q2 q3
            have HP := Lib.hid hp
            have hblt : w2.heap.size < wr.heap.size := hm.out.lt
            have HBA : Hid (Below w.heap.size w (wr.alloc (.cells #[.int .i64 a, .int .i64 j, .int .i64 s, .int .i64 y] 46))) := hbl.out.alloc hbl.out.size _
            have HMA := Lib.hid (hm.out.kept (World.grownBy_alloc wr (.cells #[.int .i64 a, .int .i64 j, .int .i64 s, .int .i64 y] 46) none) (by simp))
            have c0 : (wr.alloc (.cells #[.int .i64 a, .int .i64 j, .int .i64 s, .int .i64 y] 46)).cell? ⟨wr.heap.size, 0, none⟩ = some (.int .i64 a) := by rw [cell_new]; rfl
            have c1 : (wr.alloc (.cells #[.int .i64 a, .int .i64 j, .int .i64 s, .int .i64 y] 46)).cell? ⟨wr.heap.size, 0 + 1, none⟩ = some (.int .i64 j) := by rw [cell_new]; rfl
            have c2 : (wr.alloc (.cells #[.int .i64 a, .int .i64 j, .int .i64 s, .int .i64 y] 46)).cell? ⟨wr.heap.size, 0 + 2, none⟩ = some (.int .i64 s) := by rw [cell_new]; rfl
            have c3 : (wr.alloc (.cells #[.int .i64 a, .int .i64 j, .int .i64 s, .int .i64 y] 46)).cell? ⟨wr.heap.size, 0 + 3, none⟩ = some (.int .i64 y) := by rw [cell_new]; rfl
            have hlk := HMA.out.look HP.out
            rw [hce] at hlk
            change (Instr.lookup 70 (.map (some w2.heap.size)) (.agg #[.int .i64 a, .int .i64 j, .int .i64 s, .int .i64 y]) false).run Try.prog _ = _ at hlk
            clear hcc hpe hm hbl ra hp
            go_wp2_with fail
            generalize wr.alloc (.cells #[.int .i64 a, .int .i64 j, .int .i64 s, .int .i64 y] 46) = wa at *
            generalize wr.heap.size = bx at *
            obtain ⟨es, clock, hb0, E0⟩ := HMA.out
            obtain ⟨v0, st, es1, clock1, E1, ⟨jj, e0, hj0, hk0, rfl⟩, hME⟩ := E0.entry HP.out
            obtain ⟨es2, E2, hES⟩ := E1.store (c - 1) hj0 hk0
            have hL0 : ∀ W : World, W.heap[w2.heap.size]? = some (.map es clock) → (Instr.lookup 70 (.map (some w2.heap.size)) (.agg #[.int .i64 a, .int .i64 j, .int .i64 s, .int .i64 y]) false).run Try.prog W = .ok (.int .i64 c) W := fun W hW => by have := E0.look HP.out hW; rw [hce] at this; exact this
            have hL1 : ∀ W : World, W.heap[w2.heap.size]? = some (.map es1 clock1) → (Instr.lookup 70 (.map (some w2.heap.size)) (.agg #[.int .i64 a, .int .i64 j, .int .i64 s, .int .i64 y]) false).run Try.prog W = .ok (.int .i64 c) W := fun W hW => by have := E1.look HP.out hW; rw [hce] at this; exact this
            have hME' : ∀ W : World, W.heap[w2.heap.size]? = some (.map es clock) → (Instr.mapEntry 70 (.map (some w2.heap.size)) (.agg #[.int .i64 a, .int .i64 j, .int .i64 s, .int .i64 y])).run Try.prog W = .ok (.tuple #[v0, goInt e0.born]) (setBlock W w2.heap.size (.map es1 clock1)) := fun W hW => hME W _ hW
            have hES' : ∀ W : World, W.heap[w2.heap.size]? = some (.map es1 clock1) → (Instr.entryStore 70 (.map (some w2.heap.size)) (goInt e0.born) (.int .i64 (c - 1))).run Try.prog W = .ok () (setBlock W w2.heap.size (.map es2 clock1)) := fun W hW => hES W _ hW
            clear hME hES
            refine region_sw (by kernel_rfl) (by kernel_rfl) (by kernel_rfl) (fun bt W => SameG w w2.heap.size bx a j s y es clock es1 clock1 es2 (bt 4) (bt 6) W) (fun k v _ => SameF w2.heap.size a j s y c (c - 1) v0 e0.born k v) ?start ?step ?fin
            case start => exact ⟨HBA.out.drew, hb0, c0, c1, c2, c3⟩
            case step =>
              intro A W bt hG hf i o ho hni hcl hwt hdep
              have e5 : A.eval (.tmp 5) = .map (some w2.heap.size) := hf 5 (by kernel_rfl)
              have e7 : A.eval (.tmp 10) = .pointer (some ⟨bx, 0, none⟩) := hf 10 (by kernel_rfl)
              obtain ⟨gb, gm, g0, g1, g2, g3⟩ := id hG
              have hG2 : ∀ k, k ≠ 4 → k ≠ 6 → SameG w w2.heap.size bx a j s y es clock es1 clock1 es2 (if 4 = k then true else bt 4) (if 6 = k then true else bt 6) W := fun k h1 h2 => by
                rw [if_neg (Ne.symm h1), if_neg (Ne.symm h2)]; exact hG
              rcases i with _ | i
              · cases ho
                exact ⟨rfl, _, rfl, hG2 0 (by decide) (by decide), e5, fun _ _ _ h => h⟩
              rcases i with _ | i
              · cases ho
                exact ⟨rfl, op_val (v := .agg #[.int .i64 a, .int .i64 j, .int .i64 s, .int .i64 y]) (w' := W) (by simp only [Nat.zero_add] at g1 g2 g3; simp [go_sem, evT e7, g0, g1, g2, g3]) ⟨_, rfl, hG2 1 (by decide) (by decide), rfl, fun _ _ _ h => h⟩⟩
              rcases i with _ | i
              · cases ho
                have h1 : A.eval (.tmp 43) = .map (some w2.heap.size) := hdep 0 (by kernel_rfl) _ rfl
                have h2 : A.eval (.tmp 44) = .agg #[.int .i64 a, .int .i64 j, .int .i64 s, .int .i64 y] := hdep 1 (by kernel_rfl) _ rfl
                have hd : bt 6 = false := by
                  cases hb : bt 6 with
                  | false => rfl
                  | true =>
                    have k0 := hcl 6 _ hb rfl 3 (by kernel_rfl)
                    have k1 := hcl 3 _ k0 rfl 2 (by kernel_rfl)
                    rw [hni] at k1; cases k1
                have hrun : (Instr.lookup 70 (.map (some w2.heap.size)) (.agg #[.int .i64 a, .int .i64 j, .int .i64 s, .int .i64 y]) false).run Try.prog W = .ok (.int .i64 c) W := by
                  rw [hd] at gm
                  cases h4 : bt 4 with
                  | false => rw [h4] at gm; exact hL0 W gm
                  | true => rw [h4] at gm; exact hL1 W gm
                exact ⟨rfl, op_val (v := .int .i64 c) (w' := W) (by simp [go_sem, evT h1, evT h2, hrun]) ⟨_, rfl, hG2 2 (by decide) (by decide), rfl, fun _ _ _ h => h⟩⟩
              rcases i with _ | i
              · cases ho
                have h1 : A.eval (.tmp 45) = .int .i64 c := hdep 2 (by kernel_rfl) _ rfl
                exact ⟨rfl, op_val (v := .int .i64 (c - 1)) (w' := W) (by simp [go_sem, evT h1, hz]) ⟨_, rfl, hG2 3 (by decide) (by decide), rfl, fun _ _ _ h => h⟩⟩
              rcases i with _ | i
              · cases ho
                have h1 : A.eval (.tmp 43) = .map (some w2.heap.size) := hdep 0 (by kernel_rfl) _ rfl
                have h2 : A.eval (.tmp 44) = .agg #[.int .i64 a, .int .i64 j, .int .i64 s, .int .i64 y] := hdep 1 (by kernel_rfl) _ rfl
                have hd : bt 6 = false := by
                  cases hb : bt 6 with
                  | false => rfl
                  | true =>
                    have k0 := hcl 6 _ hb rfl 5 (by kernel_rfl)
                    have k1 := hcl 5 _ k0 rfl 4 (by kernel_rfl)
                    rw [hni] at k1; cases k1
                rw [hd, hni] at gm
                have hrun := hME' W gm
                have hg := grow_setBlock gm (.map es1 clock1)
                refine ⟨rfl, op_val (v := .tuple #[v0, goInt e0.born]) (w' := setBlock W w2.heap.size (.map es1 clock1)) (by simp [go_sem, evT h1, evT h2, hrun]) ⟨_, rfl, ?_, rfl, fun _ _ _ h => h⟩⟩
                refine ⟨gb.grown hg gb.size (fun k e => by cases e; exact hs2), ?_, hg.cell g0 (by simp; omega), hg.cell g1 (by simp; omega), hg.cell g2 (by simp; omega), hg.cell g3 (by simp; omega)⟩
                simp only [hd]
                simpa using heap_setBlock_same gm _
              rcases i with _ | i
              · cases ho
                have h1 : A.eval (.tmp 47) = .tuple #[v0, goInt e0.born] := hdep 4 (by kernel_rfl) _ rfl
                exact ⟨rfl, op_val (v := goInt e0.born) (w' := W) (by simp [go_sem, evT h1]) ⟨_, rfl, hG2 5 (by decide) (by decide), rfl, fun _ _ _ h => h⟩⟩
              rcases i with _ | i
              · cases ho
                have h1 : A.eval (.tmp 43) = .map (some w2.heap.size) := hdep 0 (by kernel_rfl) _ rfl
                have h2 : A.eval (.tmp 48) = goInt e0.born := hdep 5 (by kernel_rfl) _ rfl
                have h3 : A.eval (.tmp 46) = .int .i64 (c - 1) := hdep 3 (by kernel_rfl) _ rfl
                have h4 : bt 4 = true := hcl 5 _ (hwt 5 (by kernel_rfl)) rfl 4 (by kernel_rfl)
                rw [hni, h4] at gm
                have hrun : (Instr.entryStore 70 (.map (some w2.heap.size)) (.int .i64 (e0.born : Int)) (.int .i64 (c - 1))).run Try.prog W = .ok () (setBlock W w2.heap.size (.map es2 clock1)) := hES' W gm
                have hg := grow_setBlock gm (.map es2 clock1)
                refine ⟨rfl, op_skip (w' := setBlock W w2.heap.size (.map es2 clock1)) (by simp [go_sem, evT h1, evT h2, evT h3, hrun]) ⟨_, rfl, ?_, trivial, fun _ _ _ h => h⟩⟩
                refine ⟨gb.grown hg gb.size (fun k e => by cases e; exact hs2), ?_, hg.cell g0 (by simp; omega), hg.cell g1 (by simp; omega), hg.cell g2 (by simp; omega), hg.cell g3 (by simp; omega)⟩
                simpa using heap_setBlock_same gm _
              · cases ho
            case fin =>
              intro A W bt hsz' hdf hG hall hold hfact
              obtain ⟨gb, gm, _⟩ := hG
              rw [hall 6 (by simp)] at gm
              have HM2 : Hid (MapP W w2.heap.size (cN L2)) := MapP.congr ⟨es2, clock1, gm, E2⟩ HFN.out
              have HB2 := Lib.hid gb
              obtain ⟨f, rfl⟩ := frame_lit [43, 44, 45, 46, 47, 48] (by kernel_rfl) hsz' hdf hold
              clear hsz' hdf hall hold hfact gm gb HMA HBA hL0 hL1 hME' hES' E0 E1 E2 hb0
              simp only [List.foldl_cons, List.foldl_nil, List.setIfInBounds_toArray, List.set_cons_succ, List.set_cons_zero]
              go_wp2_with fail
              go_roundw
              case rel => exact ⟨k + 1, L2, by omega, by go_num, by rw [HLR.out]; omega, by rw [HLR.out]; go_num, HLN, HM2, HB2⟩
              case measure => simp [intOf]; omega
          · have dpos : decide (0 < c) = false := by simpa using hpos
            have HLN : Hid (∀ q, cN L q ≤ 0 ∨ cN L q = cN vs q - cN (us.take (k + 1)) q) := fun q => by
              rw [HPE.out, cN_snoc]
              by_cases e : q = p
              · subst e; left; omega
              · rw [if_neg e]; exact hL.out q
            clear hpos
            obtain ⟨a, j, s, y⟩ := p
            have q0 := hcc 0 (by omega)
            have q1 := hcc 1 (by omega)
            have q2 := hcc 2 (by omega)
            have q3 := hcc 3 (by omega)
            rw [hpe] at q0 q1 q2 q3 hp
            simp only [pc, Nat.add_zero] at q0 q1 q2 q3
            have HP := Lib.hid hp
            have hblt : w2.heap.size < wr.heap.size := hm.out.lt
            have HBA : Hid (Below w.heap.size w (wr.alloc (.cells #[.int .i64 a, .int .i64 j, .int .i64 s, .int .i64 y] 46))) := hbl.out.alloc hbl.out.size _
            have HMA := Lib.hid (hm.out.kept (World.grownBy_alloc wr (.cells #[.int .i64 a, .int .i64 j, .int .i64 s, .int .i64 y] 46) none) (by simp))
            have c0 : (wr.alloc (.cells #[.int .i64 a, .int .i64 j, .int .i64 s, .int .i64 y] 46)).cell? ⟨wr.heap.size, 0, none⟩ = some (.int .i64 a) := by rw [cell_new]; rfl
            have c1 : (wr.alloc (.cells #[.int .i64 a, .int .i64 j, .int .i64 s, .int .i64 y] 46)).cell? ⟨wr.heap.size, 0 + 1, none⟩ = some (.int .i64 j) := by rw [cell_new]; rfl
            have c2 : (wr.alloc (.cells #[.int .i64 a, .int .i64 j, .int .i64 s, .int .i64 y] 46)).cell? ⟨wr.heap.size, 0 + 2, none⟩ = some (.int .i64 s) := by rw [cell_new]; rfl
            have c3 : (wr.alloc (.cells #[.int .i64 a, .int .i64 j, .int .i64 s, .int .i64 y] 46)).cell? ⟨wr.heap.size, 0 + 3, none⟩ = some (.int .i64 y) := by rw [cell_new]; rfl
            have hlk := HMA.out.look HP.out
            rw [hce] at hlk
            change (Instr.lookup 70 (.map (some w2.heap.size)) (.agg #[.int .i64 a, .int .i64 j, .int .i64 s, .int .i64 y]) false).run Try.prog _ = _ at hlk
            clear hcc hpe hm hbl ra hp
            go_wp2_with fail
            go_roundw
            case rel => exact ⟨k + 1, L, by omega, by go_num, hll, rfl, HLN, HMA, HBA⟩
            case measure => simp [intOf]; omega
        · have HLE : Hid (L = []) := all_gone (fun q => by
            have h1 := hL.out q
            rw [List.take_of_length_le (by omega)] at h1
            have h2 := HSUB.out q
            omega)
          have hl0 : L.length = 0 := by rw [HLE.out]; rfl
          clear hm hL
          go_wp2_with fail
          go_ret
          exact ⟨ret_i (by rw [hl0]; simp), hbl.out⟩

set_option maxHeartbeats 1000000 in
theorem iDiffPeople (w : World) (P Q : Nat → Prop) (va vb : Value) (us vs : List Pers) (h : PplS w P va us) (h2 : PplS w Q vb vs) (ha : pplOk us) (hb : pplOk vs) (hsub : ∀ q, cN vs q ≤ cN us q) :
    Calls Try.prog 10 #[va, vb] w fun e w' => e = .returned (.bool true) ∧ Below w.heap.size w w' := by
  have HA := Lib.hid h
  have HB := Lib.hid h2
  obtain ⟨aa, ca, rfl, _, _⟩ := h
  obtain ⟨ab, cb, rfl, _, _⟩ := h2
  have DA : Hid (decide (pplOk us) = true) := decide_eq_true ha
  have DB : Hid (decide (pplOk vs) = true) := decide_eq_true hb
  have KA := Lib.hid ha
  have KB := Lib.hid hb
  have HSUB := Lib.hid hsub
  have la : us.length ≤ 40 := ha.2
  have lb : vs.length ≤ 40 := hb.2
  clear ha hb hsub
  go_enter Try.func10, Try.ntmps10
  go_wp2_with fail
  with_reducible refine (iPeopleValid _ _ _ us HA.out (by omega)).mono ?_
  rintro e w1 ⟨rfl, b1⟩
  rw [DA.out]
  have B1 := Lib.hid b1
  have HA1 := Lib.hid (HA.out.below b1)
  have HB1 := Lib.hid (HB.out.below b1)
  clear b1
  go_wp2_with fail
  with_reducible refine (iPeopleValid _ _ _ vs HB1.out (by omega)).mono ?_
  rintro e w2 ⟨rfl, b2⟩
  rw [DB.out]
  have B2 := Lib.hid (B1.out.trans (b2.mono B1.out.size))
  have HA2 := Lib.hid (HA1.out.below b2)
  have HB2 := Lib.hid (HB1.out.below b2)
  clear b2
  go_wp2_with fail
  with_reducible refine (iDiffSame _ _ _ _ _ us vs HA2.out HB2.out KA.out KB.out HSUB.out).mono ?_
  rintro e w3 ⟨rfl, b3⟩
  have B3 := Lib.hid (B2.out.trans (b3.mono B2.out.size))
  clear b3
  go_wp2_with fail
  go_ret
  exact ⟨rfl, B3.out⟩

end Go.Proofs.Ytdlpcoafbmhjjaa
