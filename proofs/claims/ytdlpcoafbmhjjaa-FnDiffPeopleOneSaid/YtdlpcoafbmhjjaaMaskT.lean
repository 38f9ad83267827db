/- Contract: MaskSmall, in the reference. -/
import Derived.Test.YtdlpcoafbmhjjaaMaskS
namespace Go.Proofs.Ytdlpcoafbmhjjaa
open Go.RowKit

theorem OwnB.below {w w' : World} {base g n cap : Nat} {m : List (List Bool)} {us : List Value} (h : OwnB w base g n cap m us) (hb : Below w.heap.size w w') : OwnB w' base g n cap m us :=
  h.keptB (row := none) ⟨hb.os, hb.tape, hb.output, hb.size, fun k hk _ => hb.block k hk⟩ (by simp)
theorem maskOf_snoc {t : List (List Int)} {kk : Int} {p : Nat} (h : p < t.length) : (maskOf t kk).take (p + 1) = (maskOf t kk).take p ++ [(t[p]?.getD []).map (smallC kk)] := by
  rw [List.take_succ_eq_append_getElem (by rw [maskOf_len]; exact h)]
  congr 2
  have := maskOf_row t kk p
  rw [List.getElem?_eq_getElem (by rw [maskOf_len]; exact h)] at this
  exact this

set_option maxRecDepth 100000 in
set_option maxHeartbeats 2000000 in
theorem sMaskSmall (w : World) (P : Nat → Prop) (v : Value) (t : List (List Int)) (kk : Int) (h : IntSS w P v t) (hl : lensT t) (ht : tblOk t) :
    Calls Try.prog 30 #[v, .int .i64 kk] w (MaskedT w t kk) := by
  obtain ⟨i0, hi0, hz0, hz1, hz2⟩ := info_parts Try.info_bool
  obtain ⟨j0, hj0, hy0, hy1, hy2⟩ := info_parts Try.info_brow
  have HT := Lib.hid (h.mono (Q := (· < w.heap.size)) (fun _ _ h => h))
  have HL := Lib.hid hl
  have HK := Lib.hid ht
  obtain ⟨a, cap, rfl, _, _⟩ := h
  have p0 : 0 < t.length := ht.1
  have p4 : t.length ≤ 4 := ht.2.1
  have hb0 : Below w.heap.size w (w.alloc (.cells #[] 71)) := (Below.refl _ _).alloc (Nat.le_refl _) _
  have HT0 := Lib.hid (HT.out.below hb0)
  have HM0 : Hid (∀ n, OwnB ((w.alloc (.cells #[] 71)).drewN n) w.heap.size w.heap.size 0 0 ((maskOf t kk).take 0) []) := fun n => (OwnB.empty w w.heap.size (Nat.le_refl _)).drewN n
  have HB0 : Hid (∀ n, Below w.heap.size w ((w.alloc (.cells #[] 71)).drewN n)) := fun n => below_drewN hb0 n
  clear hl ht hb0
  go_enter Try.func30, Try.ntmps30
  go_wp2_with fail
  with_reducible refine (sTableValid _ _ _ t HT0.out HL.out).mono ?_
  rintro e w' ⟨rfl, n0, rfl⟩
  rw [decide_eq_true HK.out]
  go_wp2_with fail
  go_loopw [6, 7] (fun v i wr => ∃ (p g cap : Nat) (us : List Value), p ≤ t.length ∧ i = .int .i64 p ∧ v = .slice (some ⟨g, 0, none⟩) p cap ∧ p ≤ cap ∧ Hid (OwnB wr w.heap.size g p cap ((maskOf t kk).take p) us) ∧ Hid (Below w.heap.size w wr)) (fun _ i _ => t.length - (intOf i).toNat)
  case atStart => exact ⟨0, _, 0, [], Nat.zero_le _, rfl, rfl, Nat.le_refl _, HM0.out n0, HB0.out n0⟩
  case round =>
    obtain ⟨p, g, cp, us, hp, rfl, rfl, hcp, hm, hbl⟩ := hrel
    by_cases hlt : p < t.length
    · have hwp : wid t p = wid t 0 := (HK.out.2.2.2.2 p hlt).1
      obtain ⟨l, hll⟩ : ∃ l, wid t p = l := ⟨_, rfl⟩
      have hl4 : 1 ≤ l ∧ l ≤ 4 := by have := HK.out.2.2; omega
      obtain ⟨_, _, ea, _, ra⟩ := HT.out
      cases ea
      obtain ⟨b1, o1, a1, c1, rfl, hPb, hc1, hrI⟩ := ra.rowW hlt
      rw [hll] at hc1
      have HR1 : Hid (∀ X, Below w.heap.size w X → X.cell? ⟨b1, o1 + p, none⟩ = some (.slice a1 l c1)) := fun X hX => (hX.cell (p := ⟨b1, o1 + p, none⟩) hPb).trans hc1
      have HRI : Hid (∀ X, Below w.heap.size w X → ∀ q, q < l → ∃ b off, a1 = some ⟨b, off, none⟩ ∧ X.cell? ⟨b, off + q, none⟩ = some (.int .i64 (cel t p q))) := fun X hX q hq => by
        obtain ⟨b, off, e1, hb, hc⟩ := hrI q (by unfold wid at hll; omega)
        exact ⟨b, off, e1, (hX.cell (p := ⟨b, off + q, none⟩) hb).trans hc⟩
      have HLL := Lib.hid hll
      have kn : (p : Int) < (t.length : Int) := by omega
      have hws := hbl.out.size
      obtain ⟨wo, hwo⟩ : ∃ wo : World, wo = wr := ⟨_, rfl⟩
      have HR0 : Hid ((wr.alloc (.cells #[] 4)).ownsRow wo.heap.size 4 1 (.slice (some ⟨wr.heap.size, 0, none⟩) 0 0) 0 ((((t[p]?.getD []).take 0).map (smallC kk)).map Value.bool)) := by
        subst hwo; exact World.ownsRow_made wo #[] 0 (Nat.le_refl _) (Nat.zero_le _) rfl
      have HBo : Hid (Below wo.heap.size wo (wr.alloc (.cells #[] 4))) := by subst hwo; exact (Below.refl _ _).alloc (Nat.le_refl _) _
      have hm' : Hid (OwnB wo w.heap.size g p cp ((maskOf t kk).take p) us) := by subst hwo; exact hm
      have hbl' : Hid (Below w.heap.size w wo) := by subst hwo; exact hbl
      have hwo' : w.heap.size ≤ wo.heap.size := by subst hwo; exact hws
      clear hwp hll hc1 hrI ra hm hbl hws hwo
      go_wp2_with fail
      go_loopw [8, 9] (fun v j wr => ∃ (q gr cr : Nat), q ≤ l ∧ j = .int .i64 q ∧ v = .slice (some ⟨gr, 0, none⟩) q cr ∧ Hid (wr.ownsRow wo.heap.size 4 1 (.slice (some ⟨gr, 0, none⟩) q cr) q ((((t[p]?.getD []).take q).map (smallC kk)).map Value.bool)) ∧ Hid (Below wo.heap.size wo wr)) (fun _ j _ => l - (intOf j).toNat)
      case atStart => exact ⟨0, _, 0, Nat.zero_le _, rfl, rfl, HR0, HBo⟩
      case round =>
        clear HR0 HBo
        obtain ⟨q, gr, cr, hq, rfl, rfl, hrow, hbo⟩ := hrel
        have hbw := hbl'.out.trans (hbo.out.mono hwo')
        have hr1 := HR1.out _ hbw
        have hwz := hbo.out.size
        by_cases hqlt : q < l
        · have hwl := HLL.out
          unfold wid at hwl
          obtain ⟨bz, oz, rfl, hcz⟩ := HRI.out _ hbw q hqlt
          obtain ⟨z, hz⟩ : ∃ z, cel t p q = z := ⟨_, rfl⟩
          have HZ : Hid ((((t[p]?.getD []).take (q + 1)).map (smallC kk)).map Value.bool = (((t[p]?.getD []).take q).map (smallC kk)).map Value.bool ++ [Value.bool (smallC kk z)]) := by
            have := take_map_snoc (zs := t[p]?.getD []) kk (by omega : q < (t[p]?.getD []).length)
            unfold Hid
            rw [← hz, this, List.map_append]; rfl
          obtain ⟨L, hL⟩ : ∃ L, (((t[p]?.getD []).take q).map (smallC kk)).map Value.bool = L := ⟨_, rfl⟩
          rw [hL] at hrow HZ
          rw [hz] at hcz
          have pl : (q : Int) < (l : Int) := by omega
          have key : Hid (∀ (w2 : World) (v' : Value) (x : Bool), x = smallC kk z → w2.ownsRow wo.heap.size 4 1 v' (q + 1) (L ++ [.bool x]) → wr.grownBy w2 (some gr) → (v' = .slice none 0 0 → False) →
              ∃ gv cv, v' = .slice (some ⟨gv, 0, none⟩) (q + 1) cv ∧ Hid (w2.ownsRow wo.heap.size 4 1 (.slice (some ⟨gv, 0, none⟩) (q + 1) cv) (q + 1) ((((t[p]?.getD []).take (q + 1)).map (smallC kk)).map Value.bool)) ∧ Hid (Below wo.heap.size wo w2)) := by
            intro w2 v' x hx ho hg hn
            subst hx
            rw [← HZ.out] at ho
            have hb2 := hbo.out.grown hg hbo.out.size (fun k e => by cases e; exact (hrow.out.lt gr rfl).1)
            rcases id ho.2 with ⟨e, _⟩ | ⟨gv, cv, cur, rfl, _⟩
            · exact (hn e).elim
            · exact ⟨gv, cv, rfl, ho, hb2⟩
          have hgrow0 : ∀ o, wr.grownBy (wr.alloc o) (some gr) := fun o => World.grownBy_alloc _ _ _
          clear hwl hz hL hbo
          by_cases h0 : 0 < z
          · by_cases h1 : z < kk
            · have d0 : decide (0 < z) = true := by simpa using h0
              have d1 : decide (z < kk) = true := by simpa using h1
              have HX : Hid (true = smallC kk z) := by unfold Hid smallC; rw [d0, d1]; rfl
              clear h0 h1
              go_wp2_with (at_builtin; refine wpList_append_own_at _ rfl _ _ 71 rfl wo.heap.size 4 i0 (.bool false) 1 1 Try.underlying71 hi0 hz0 hz1 hz2 rfl (by decide) _ _ _ rfl (hrow.out.alloc _) ⟨wr.heap.size, 0, none⟩ 1 1 [.bool true] rfl rfl (cell_one_new _ _ _) (by simp [Value.oneCell']) ?d3 ?d4 ?d5 ?_)
              case d3 => unfold maxLen; omega
              case d4 => omega
              case d5 => simp; omega
              intro v1 w2 hown hgrow hnil hat
              obtain ⟨gv, cv, rfl, k4, k5⟩ := key.out w2 v1 true HX.out hown (grow_trans (hgrow0 _) hgrow) (by simpa using hnil)
              clear hown hgrow hnil hat
              go_wp2_with fail
              go_roundw
              case rel => exact ⟨q + 1, gv, cv, by omega, by go_num, rfl, k4, k5⟩
              case measure => simp [intOf]; omega
            · have d0 : decide (0 < z) = true := by simpa using h0
              have d1 : decide (z < kk) = false := by simpa using h1
              have HX : Hid (false = smallC kk z) := by unfold Hid smallC; rw [d0, d1]; rfl
              clear h0 h1
              go_wp2_with (at_builtin; refine wpList_append_own_at _ rfl _ _ 71 rfl wo.heap.size 4 i0 (.bool false) 1 1 Try.underlying71 hi0 hz0 hz1 hz2 rfl (by decide) _ _ _ rfl (hrow.out.alloc _) ⟨wr.heap.size, 0, none⟩ 1 1 [.bool false] rfl rfl (cell_one_new _ _ _) (by simp [Value.oneCell']) ?d3 ?d4 ?d5 ?_)
              case d3 => unfold maxLen; omega
              case d4 => omega
              case d5 => simp; omega
              intro v1 w2 hown hgrow hnil hat
              obtain ⟨gv, cv, rfl, k4, k5⟩ := key.out w2 v1 false HX.out hown (grow_trans (hgrow0 _) hgrow) (by simpa using hnil)
              clear hown hgrow hnil hat
              go_wp2_with fail
              go_roundw
              case rel => exact ⟨q + 1, gv, cv, by omega, by go_num, rfl, k4, k5⟩
              case measure => simp [intOf]; omega
          · have d0 : decide (0 < z) = false := by simpa using h0
            have HX : Hid (false = smallC kk z) := by unfold Hid smallC; rw [d0]; rfl
            clear h0
            go_wp2_with (at_builtin; refine wpList_append_own_at _ rfl _ _ 71 rfl wo.heap.size 4 i0 (.bool false) 1 1 Try.underlying71 hi0 hz0 hz1 hz2 rfl (by decide) _ _ _ rfl (hrow.out.alloc _) ⟨wr.heap.size, 0, none⟩ 1 1 [.bool false] rfl rfl (cell_one_new _ _ _) (by simp [Value.oneCell']) ?d3 ?d4 ?d5 ?_)
            case d3 => unfold maxLen; omega
            case d4 => omega
            case d5 => simp; omega
            intro v1 w2 hown hgrow hnil hat
            obtain ⟨gv, cv, rfl, k4, k5⟩ := key.out w2 v1 false HX.out hown (grow_trans (hgrow0 _) hgrow) (by simpa using hnil)
            clear hown hgrow hnil hat
            go_wp2_with fail
            go_roundw
            case rel => exact ⟨q + 1, gv, cv, by omega, by go_num, rfl, k4, k5⟩
            case measure => simp [intOf]; omega
        · have hql : Hid (q = l) := by unfold Hid; omega
          have HML : Hid ((maskOf t kk).take (p + 1) = (maskOf t kk).take p ++ [(t[p]?.getD []).map (smallC kk)]) := maskOf_snoc hlt
          have hrow2 : Hid (wr.ownsRow wo.heap.size 4 1 (.slice (some ⟨gr, 0, none⟩) q cr) ((t[p]?.getD []).map (smallC kk)).length (((t[p]?.getD []).map (smallC kk)).map Value.bool)) := by
            have h1 := hrow.out
            have hwl := HLL.out
            unfold wid at hwl
            rw [List.take_of_length_le (by omega)] at h1
            have h2 : ((t[p]?.getD []).map (smallC kk)).length = q := by rw [List.length_map, hwl]; exact hql.out.symm
            unfold Hid
            rw [h2]
            exact h1
          have HMB := Lib.hid (hm'.out.below hbo.out)
          have hgl : g < wo.heap.size := (hm'.out.outer.lt g rfl).2
          have HF : Hid (∀ k, (Value.slice (some ⟨gr, 0, none⟩) q cr).ownBlock = some k → ¬ blksB g us k) := fun k e hb => by
            have h1 := (hm'.out.blk hb).2
            have h2 := (hrow.out.lt k e).1
            omega
          have HBW := Lib.hid hbw
          have hwx := hbw.size
          clear hrow hbo hbw
          go_wp2_with (at_builtin; refine wpList_append_own_at _ rfl _ _ 51 rfl w.heap.size 71 j0 (.slice none 0 0) 1 24 Try.underlying51 hj0 hy0 hy1 hy2 rfl (by decide) _ _ _ rfl (HMB.out.outer.alloc _) ⟨wr.heap.size, 0, none⟩ 1 1 [.slice (some ⟨gr, 0, none⟩) q cr] rfl rfl (cell_one_new _ _ _) (by simp [Value.oneCell']) ?e3 ?e4 ?e5 ?_)
          case e3 => unfold maxLen; omega
          case e4 => omega
          case e5 => simp; omega
          intro v3 w3 hown hgrow hnil hat
          obtain ⟨g', cap', rfl, hcc, hm3⟩ := (HMB.out.alloc (.cells #[.slice (some ⟨gr, 0, none⟩) q cr] 71)).push (hrow2.out.mono hwo' |>.alloc _) HF.out hown hgrow (by simpa using hnil) (by rcases hat with e | e; exact .inl e; exact .inr ⟨_, e, by simp⟩)
          rw [← HML.out] at hm3
          have HM3 := Lib.hid hm3
          have B3 := Lib.hid ((HBW.out.alloc (by omega) (.cells #[.slice (some ⟨gr, 0, none⟩) q cr] 71)).grown hgrow (by simp; omega) (fun k e => by cases e; exact (hm'.out.outer.lt g rfl).1))
          clear hown hgrow hnil hat hm3
          go_wp2_with fail
          go_roundw
          case rel => exact ⟨p + 1, g', cap', _, by omega, by go_num, rfl, hcc, HM3, B3⟩
          case measure => simp [intOf]; omega
    · have e : Hid (p = t.length) := by unfold Hid; omega
      have HE : Hid ((maskOf t kk).take p = maskOf t kk) := by unfold Hid; rw [e.out]; exact List.take_of_length_le (by rw [maskOf_len]; exact Nat.le_refl _)
      go_wp2_with fail
      go_ret2
      refine ⟨g, cp, us, by rw [← e.out]; rfl, ?_, hbl.out⟩
      have := hm.out
      rw [HE.out] at this
      rw [← e.out]; exact this

end Go.Proofs.Ytdlpcoafbmhjjaa
