/- Contracts: MaskSmall, in the program and in the reference. -/
import Derived.Test.YtdlpcoafbmhjjaaMaskI
import Derived.Test.YtdlpcoafbmhjjaaSlices
namespace Go.Proofs.Ytdlpcoafbmhjjaa
open Go.RowKit

/-- the rows of a mask that is half made -/
def maskPart (t : List (List Int)) (kk : Int) (n p q : Nat) (m : List (List Bool)) : Prop := ∀ i, i < n → m[i]?.getD [] = if i < p then (t[i]?.getD []).map (smallC kk) else if i = p then ((t[p]?.getD []).take q).map (smallC kk) else []
theorem maskPart_next {t : List (List Int)} {kk : Int} {n p : Nat} {m : List (List Bool)} (h : maskPart t kk n p (wid t p) m) : maskPart t kk n (p + 1) 0 m := fun i hi => by
  rw [h i hi]
  by_cases e : i < p
  · rw [if_pos e, if_pos (by omega)]
  · by_cases e2 : i = p
    · subst e2
      rw [if_neg e, if_pos rfl, if_pos (by omega), List.take_of_length_le (show (t[i]?.getD []).length ≤ wid t i from Nat.le_refl _)]
    · rw [if_neg e, if_neg e2, if_neg (by omega)]
      split <;> simp
theorem maskPart_all {t : List (List Int)} {kk : Int} {m : List (List Bool)} (hl : m.length = t.length) {q : Nat} (h : maskPart t kk t.length t.length q m) : m = maskOf t kk := by
  refine List.ext_getElem (by rw [maskOf_len]; exact hl) (fun i h1 h2 => ?_)
  have := h i (by omega)
  rw [if_pos (by omega), ← maskOf_row, List.getElem?_eq_getElem h1, List.getElem?_eq_getElem h2] at this
  exact this
theorem maskPart_set {t : List (List Int)} {kk : Int} {n p q : Nat} {m : List (List Bool)} (h : maskPart t kk n p q m) (hp : p < n) (hl : m.length = n) : maskPart t kk n p (q + 1) (m.set p (((t[p]?.getD []).take (q + 1)).map (smallC kk))) := fun i hi => by
  rw [getD_setM (by omega)]
  by_cases e : i = p
  · subst e
    rw [if_pos rfl, if_neg (by omega), if_pos rfl]
  · rw [if_neg e, h i hi]
    by_cases e2 : i < p
    · rw [if_pos e2, if_pos e2]
    · rw [if_neg e2, if_neg e2, if_neg e, if_neg e]
theorem take_map_snoc {zs : List Int} {q : Nat} (kk : Int) (h : q < zs.length) : (zs.take (q + 1)).map (smallC kk) = (zs.take q).map (smallC kk) ++ [smallC kk (zs[q]?.getD 0)] := by
  rw [List.take_succ_eq_append_getElem h, List.map_append, List.getElem?_eq_getElem h]; rfl

/-- what a mask of a valid table leaves -/
def MaskedT (w : World) (t : List (List Int)) (kk : Int) (e : Ending) (w' : World) : Prop :=
  ∃ g cap us, e = .returned (.tuple #[.slice (some ⟨g, 0, none⟩) t.length cap, .bool true]) ∧ OwnB w' w.heap.size g t.length cap (maskOf t kk) us ∧ Below w.heap.size w w'

set_option maxRecDepth 100000 in
set_option maxHeartbeats 2000000 in
theorem iMaskSmall (w : World) (P : Nat → Prop) (v : Value) (t : List (List Int)) (kk : Int) (h : IntSS w P v t) (hl : lensT t) (ht : tblOk t) :
    Calls Try.prog 26 #[v, .int .i64 kk] w (MaskedT w t kk) := by
  obtain ⟨i0, hi0, hz0, hz1, hz2⟩ := info_parts Try.info_bool
  have HT := Lib.hid (h.mono (Q := (· < w.heap.size)) (fun _ _ h => h))
  have HL := Lib.hid hl
  have HK := Lib.hid ht
  obtain ⟨a, cap, rfl, _, _⟩ := h
  have p0 : 0 < t.length := ht.1
  have p4 : t.length ≤ 4 := ht.2.1
  have hmk := run_make_row' (P := Try.prog) 51 71 (.slice none 0 0) 24 Try.underlying51 Try.info_brow rfl .i64 .i64 t.length (by omega) (by omega)
  clear hl ht
  go_enter Try.func26, Try.ntmps26
  go_wp2_with fail
  with_reducible refine (iTableValid _ _ _ t HT.out HL.out).mono ?_
  rintro e w' ⟨rfl, rfl⟩
  rw [decide_eq_true HK.out]
  go_wp2_with fail
  have HM0 := Lib.hid (OwnB.made w w.heap.size t.length (Nat.le_refl _) (by unfold maxLen; omega))
  have HB0 : Hid (Below w.heap.size w (w.alloc (.cells (madeCells #[.slice none 0 0] t.length) 71))) := (Below.refl _ _).alloc (Nat.le_refl _) _
  go_loopw [19] (fun i wr => ∃ (p : Nat) (us : List Value) (m : List (List Bool)), p ≤ t.length ∧ i = .int .i64 p ∧ Hid (OwnB wr w.heap.size w.heap.size t.length t.length m us) ∧ Hid (maskPart t kk t.length p 0 m) ∧ Hid (Below w.heap.size w wr)) (fun i _ => t.length - (intOf i).toNat)
  case atStart =>
    refine ⟨0, _, _, Nat.zero_le _, rfl, HM0, ?_, HB0⟩
    intro i hi
    rw [List.getElem?_replicate, if_pos hi, if_neg (Nat.not_lt_zero i)]
    split <;> simp
  case round =>
    obtain ⟨p, us, m, hp, rfl, hm, hpart, hbl⟩ := hrel
    by_cases hlt : p < t.length
    · have hwp : wid t p = wid t 0 := (HK.out.2.2.2.2 p hlt).1
      obtain ⟨l, hll⟩ : ∃ l, wid t p = l := ⟨_, rfl⟩
      have hl4 : 1 ≤ l ∧ l ≤ 4 := by have := HK.out.2.2; omega
      obtain ⟨_, _, ea, _, ra⟩ := HT.out
      cases ea
      obtain ⟨b1, o1, a1, c1, rfl, hPb, hc1, hrI⟩ := ra.rowW hlt
      rw [hll] at hc1
      have hr1 := (hbl.out.cell (p := ⟨b1, o1 + p, none⟩) hPb).trans hc1
      have HRI : Hid (∀ X, Below w.heap.size w X → ∀ q, q < l → ∃ b off, a1 = some ⟨b, off, none⟩ ∧ X.cell? ⟨b, off + q, none⟩ = some (.int .i64 (cel t p q))) := fun X hX q hq => by
        obtain ⟨b, off, e1, hb, hc⟩ := hrI q (by unfold wid at hll; omega)
        exact ⟨b, off, e1, (hX.cell (p := ⟨b, off + q, none⟩) hb).trans hc⟩
      have HLL := Lib.hid hll
      have kn : (p : Int) < (t.length : Int) := by omega
      clear hwp hll hc1 hrI ra
      go_wp2_with fail
      clear hr1
      go_loopw [26] (fun i wr => ∃ (q : Nat) (us : List Value) (m : List (List Bool)), q ≤ l ∧ i = .int .i64 q ∧ Hid (OwnB wr w.heap.size w.heap.size t.length t.length m us) ∧ Hid (maskPart t kk t.length p q m) ∧ Hid (Below w.heap.size w wr)) (fun i _ => l - (intOf i).toNat)
      case atStart => exact ⟨0, us, m, Nat.zero_le _, rfl, hm, hpart, hbl⟩
      case round =>
        clear hm hpart hbl
        obtain ⟨q, us, m, hq, rfl, hm, hpart, hbl⟩ := hrel
        by_cases hqlt : q < l
        · obtain ⟨ai, ci, hu, _⟩ := hm.out.row hlt
          have hwl := HLL.out
          unfold wid at hwl
          have hmp : m[p]?.getD [] = ((t[p]?.getD []).take q).map (smallC kk) := by have := hpart.out p hlt; rw [if_neg (by omega), if_pos rfl] at this; exact this
          have hln : (m[p]?.getD []).length = q := by rw [hmp]; simp; omega
          have hrow := hm.out.rows p hlt
          rw [hln] at hu
          rw [hu, hln, hmp] at hrow
          have hcell := hm.out.cell hlt
          rw [hu] at hcell
          have hgl : w.heap.size < wr.heap.size := (hm.out.outer.lt _ rfl).2
          have hfro := hm.out.frozen p
          have hbs := hm.out.beside p hlt
          rw [hu] at hbs
          obtain ⟨bz, oz, rfl, hcz⟩ := HRI.out wr hbl.out q hqlt
          obtain ⟨z, hz⟩ : ∃ z, cel t p q = z := ⟨_, rfl⟩
          have HZ : Hid (((t[p]?.getD []).take (q + 1)).map (smallC kk) = ((t[p]?.getD []).take q).map (smallC kk) ++ [smallC kk z]) := by
            have := take_map_snoc (zs := t[p]?.getD []) kk (by omega : q < (t[p]?.getD []).length)
            rw [← hz]; exact this
          obtain ⟨L, hL⟩ : ∃ L, (((t[p]?.getD []).take q).map (smallC kk)).map Value.bool = L := ⟨_, rfl⟩
          rw [hL] at hrow
          have HLV := Lib.hid hL
          have key : Hid (∀ (w2 : World) (v' : Value) (x : Bool), x = smallC kk z → w2.ownsRow w.heap.size 4 1 v' (q + 1) (L ++ [.bool x]) → wr.grownBy w2 (Value.slice ai q ci).ownBlock → (v'.ownBlock = (Value.slice ai q ci).ownBlock ∨ ∃ k, v'.ownBlock = some k ∧ wr.heap.size ≤ k) → (v' = .slice none 0 0 → False) →
              (∃ gv cv, v' = .slice (some ⟨gv, 0, none⟩) (q + 1) cv) ∧ w2.cell? ⟨w.heap.size, p, none⟩ = some (.slice ai q ci) ∧ w2.frozen? ⟨w.heap.size, p, none⟩ = false ∧ Hid (∃ us' m', OwnB (w2.setCell ⟨w.heap.size, p, none⟩ v') w.heap.size w.heap.size t.length t.length m' us' ∧ maskPart t kk t.length p (q + 1) m') ∧ Hid (Below w.heap.size w (w2.setCell ⟨w.heap.size, p, none⟩ v'))) := by
            intro w2 v' x hx ho hg hat hn
            refine ⟨?_, (hg.cell hcell (fun e => hbs e.symm)), (World.frozen?_of_block (a := ⟨w.heap.size, p, none⟩) (hg.block _ hgl (fun e => hbs e.symm))).trans hfro, ?_, ?_⟩
            · rcases ho.2 with ⟨e, _⟩ | ⟨gv, cv, cur, e, _⟩
              · exact (hn e).elim
              · exact ⟨gv, cv, e⟩
            · refine ⟨us.set p v', m.set p (((t[p]?.getD []).take (q + 1)).map (smallC kk)), ?_, maskPart_set hpart.out hlt hm.out.lenM⟩
              refine hm.out.setRow hlt (by rw [hu]; exact hg) ?_ (by rw [hu]; exact hat)
              rw [HZ.out, List.map_append, ← hx, HLV.out]
              have : (List.map (smallC kk) (List.take q (t[p]?.getD [])) ++ [x]).length = q + 1 := by simp; omega
              rw [this]
              exact ho
            · refine (hbl.out.grown hg hbl.out.size (fun k e => ?_)).setCell (p := ⟨w.heap.size, p, none⟩) (Nat.le_refl _) v'
              have := (hm.out.rows p hlt).lt k (by rw [hu]; exact e)
              exact this.1
          rw [hz] at hcz
          have HROW := Lib.hid hrow
          have pl : (q : Int) < (l : Int) := by omega
          have hws := hbl.out.size
          have HBS := Lib.hid hbs
          have hgrow0 : ∀ o, wr.grownBy (wr.alloc o) (Value.slice ai q ci).ownBlock := fun o => World.grownBy_alloc _ _ _
          clear hu hwl hmp hln hrow hz hm hpart hbs hL
          by_cases h0 : 0 < z
          · by_cases h1 : z < kk
            · have d0 : decide (0 < z) = true := by simpa using h0
              have d1 : decide (z < kk) = true := by simpa using h1
              have HX : Hid (true = smallC kk z) := by unfold Hid smallC; rw [d0, d1]; rfl
              clear h0 h1
              go_wp2_with (at_builtin; refine wpList_append_own_at _ rfl _ _ 71 rfl w.heap.size 4 i0 (.bool false) 1 1 Try.underlying71 hi0 hz0 hz1 hz2 rfl (by decide) _ _ _ rfl (HROW.out.alloc _) ⟨wr.heap.size, 0, none⟩ 1 1 [.bool true] rfl rfl (cell_one_new _ _ _) (by simp [Value.oneCell']) ?d3 ?d4 ?d5 ?_)
              case d3 => unfold maxLen; omega
              case d4 => omega
              case d5 => simp; omega
              intro v1 w2 hown hgrow hnil hat
              obtain ⟨⟨gv, cv, rfl⟩, k2, k3, k4, k5⟩ := key.out w2 v1 true HX.out hown (grow_trans (hgrow0 _) hgrow) (hat.imp id (fun e => ⟨_, e, by simp⟩)) hnil
              obtain ⟨us', m', hm', hp'⟩ := k4.out
              have HM' := Lib.hid hm'
              have HP' := Lib.hid hp'
              clear hown hgrow hnil hat k4 hm' hp'
              go_wp2_with fail
              go_roundw
              case rel => exact ⟨q + 1, us', m', by omega, by go_num, HM', HP', k5⟩
              case measure => simp [intOf]; omega
            · have d0 : decide (0 < z) = true := by simpa using h0
              have d1 : decide (z < kk) = false := by simpa using h1
              have HX : Hid (false = smallC kk z) := by unfold Hid smallC; rw [d0, d1]; rfl
              clear h0 h1
              go_wp2_with (at_builtin; refine wpList_append_own_at _ rfl _ _ 71 rfl w.heap.size 4 i0 (.bool false) 1 1 Try.underlying71 hi0 hz0 hz1 hz2 rfl (by decide) _ _ _ rfl (HROW.out.alloc _) ⟨wr.heap.size, 0, none⟩ 1 1 [.bool false] rfl rfl (cell_one_new _ _ _) (by simp [Value.oneCell']) ?d3 ?d4 ?d5 ?_)
              case d3 => unfold maxLen; omega
              case d4 => omega
              case d5 => simp; omega
              intro v1 w2 hown hgrow hnil hat
              obtain ⟨⟨gv, cv, rfl⟩, k2, k3, k4, k5⟩ := key.out w2 v1 false HX.out hown (grow_trans (hgrow0 _) hgrow) (hat.imp id (fun e => ⟨_, e, by simp⟩)) hnil
              obtain ⟨us', m', hm', hp'⟩ := k4.out
              have HM' := Lib.hid hm'
              have HP' := Lib.hid hp'
              clear hown hgrow hnil hat k4 hm' hp'
              go_wp2_with fail
              go_roundw
              case rel => exact ⟨q + 1, us', m', by omega, by go_num, HM', HP', k5⟩
              case measure => simp [intOf]; omega
          · have d0 : decide (0 < z) = false := by simpa using h0
            have HX : Hid (false = smallC kk z) := by unfold Hid smallC; rw [d0]; rfl
            clear h0
            go_wp2_with (at_builtin; refine wpList_append_own_at _ rfl _ _ 71 rfl w.heap.size 4 i0 (.bool false) 1 1 Try.underlying71 hi0 hz0 hz1 hz2 rfl (by decide) _ _ _ rfl (HROW.out.alloc _) ⟨wr.heap.size, 0, none⟩ 1 1 [.bool false] rfl rfl (cell_one_new _ _ _) (by simp [Value.oneCell']) ?d3 ?d4 ?d5 ?_)
            case d3 => unfold maxLen; omega
            case d4 => omega
            case d5 => simp; omega
            intro v1 w2 hown hgrow hnil hat
            obtain ⟨⟨gv, cv, rfl⟩, k2, k3, k4, k5⟩ := key.out w2 v1 false HX.out hown (grow_trans (hgrow0 _) hgrow) (hat.imp id (fun e => ⟨_, e, by simp⟩)) hnil
            obtain ⟨us', m', hm', hp'⟩ := k4.out
            have HM' := Lib.hid hm'
            have HP' := Lib.hid hp'
            clear hown hgrow hnil hat k4 hm' hp'
            go_wp2_with fail
            go_roundw
            case rel => exact ⟨q + 1, us', m', by omega, by go_num, HM', HP', k5⟩
            case measure => simp [intOf]; omega
        · have HP : Hid (maskPart t kk t.length (p + 1) 0 m) := maskPart_next (by have := hpart.out; rwa [show q = wid t p by rw [HLL.out]; omega] at this)
          go_wp2_with fail
          go_roundw
          case rel => exact ⟨p + 1, us, m, by omega, by go_num, hm, HP, hbl⟩
          case measure => simp [intOf]; omega
    · have e : Hid (p = t.length) := by unfold Hid; omega
      have HE : Hid (m = maskOf t kk) := maskPart_all hm.out.lenM (by have := hpart.out; rwa [e.out] at this)
      go_wp2_with fail
      go_ret2
      exact ⟨_, _, us, rfl, by rw [← HE.out]; exact hm.out, hbl.out⟩

end Go.Proofs.Ytdlpcoafbmhjjaa
