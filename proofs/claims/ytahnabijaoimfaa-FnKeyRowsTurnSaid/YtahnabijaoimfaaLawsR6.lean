/- The walk of the law: keys can be renamed. -/
import Derived.Test.YtahnabijaoimfaaLawsR4
import Derived.Test.YtahnabijaoimfaaLawsR5
namespace Go.Proofs.Ytahnabijaoimfaa
open Go.RowKit

/-- an append onto an own slice, as a step of a region that draws its order; where the new slice lies -/
theorem step_append_own_at {P : Program} (w : World) {ops : Array Oper} {o : Oper} {a : Act} {K : Act → World → Prop} {Q : Exit → Act → World → Prop} {E : Prop} (hgd : o.guard = none) (s x : Operand) (t : TypeId)
    (ho : o.op = .call { callee := .builtin .append, args := #[s, x], argTypes := #[t, t] })
    (base : Nat) (e : TypeId) (i : TypeInfo) (z : Value) (size bytes : Nat) (ht : P.underlying t = some (.slice e)) (hi : P.info? e = some i) (hz : i.zero = some z)
    (hsize : i.size = size) (hby : i.bytes = bytes) (hzs : z.cells.size = size) (hsz : 0 < size)
    (v : Value) (n : Nat) (xs : List Value) (hs : a.eval s = v) (hown : w.ownsRow base e size v n xs)
    (ad : Addr) (m c : Nat) (news : List Value) (hx : a.eval x = .slice (some ad) m c) (hl : news.length = m * size) (hnews : ∀ j u, news[j]? = some u → w.cell? (ad.add j) = some u) (h1 : ∀ u ∈ news, u.oneCell' = true)
    (h63 : n + m ≤ maxLen) (hbytes : (n + m) * bytes ≤ 140737488355328) (hbase : base ≤ w.heap.size)
    (h : ∀ v' w', w'.ownsRow base e size v' (n + m) (xs ++ news) → w.grownBy w' v.ownBlock → (v' = .slice none 0 0 ↔ v = .slice none 0 0 ∧ m = 0) → (v'.ownBlock = v.ownBlock ∨ v'.ownBlock = some w.heap.size) → K (a.put o.dst v') w') :
    if Region.wanted o (yielded ops a.tmps) = true then Oper.wp P o a w K Q else E := by
  have hw : Region.wanted o (yielded ops a.tmps) = true := by simp [Region.wanted, hgd]
  rw [if_pos hw]
  obtain ⟨v', w', hr, h2, h3, h4, h5⟩ := run_append_own_at (P := P) w base t o.type e i z size bytes ht hi hz hsize hby hzs hsz v n xs hown ad m c news hl hnews h1 h63 hbytes hbase
  unfold Oper.wp execOp
  simp only [ho, resolve, invoke, builtin, Sem.run_bind, Sem.run_pure, Result.andThen_ok, List.map_toArray, List.map_cons, List.map_nil, hs, hx, hr]
  exact h v' w' h2 h3 h4 h5

/-- a row, turned -/
def rot (k : Nat) (r : List Int) : List Int := r.drop k ++ r.take k
theorem rot_len (k : Nat) (r : List Int) : (rot k r).length = r.length := by simp [rot]; omega
theorem rot_mem (k : Nat) (r : List Int) (c : Int) : c ∈ rot k r → c ∈ r := by
  intro h
  rcases List.mem_append.1 h with h | h
  · exact List.mem_of_mem_drop h
  · exact List.mem_of_mem_take h
theorem rot_sum (k : Nat) (r : List Int) : (rot k r).sum = r.sum := by
  have : r.sum = (r.take k).sum + (r.drop k).sum := by rw [← List.sum_append, List.take_append_drop]
  unfold rot
  rw [List.sum_append]
  omega
theorem map_at {t : List (List Int)} (f : List Int → List Int) {i : Nat} (hi : i < t.length) : (t.map f)[i]?.getD [] = f (t[i]?.getD []) := by
  rw [List.getElem?_map, List.getElem?_eq_getElem hi]; rfl
theorem rowsOk_rot {t : List (List Int)} (h : rowsOk t) (k : Nat) : rowsOk (t.map (rot k)) := by
  refine ⟨fun i hi => ?_, by simpa using h.2.1, by simpa using h.2.2⟩
  rw [List.length_map] at hi
  rw [map_at _ hi]
  have := h.1 i hi
  exact ⟨by rw [rot_len]; exact this.1, by rw [rot_sum]; exact this.2.1, fun c hc => this.2.2 c (rot_mem k _ c hc)⟩
theorem mx_from (l : List Int) (s : Int) (hs : 0 ≤ s) : l.foldl (fun m c => max m (max c (-c))) s = max s (mx l) := by
  induction l generalizing s with
  | nil => simp [mx]; omega
  | cons a l ih =>
    unfold mx
    simp only [List.foldl_cons]
    rw [ih _ (by omega), ih (max 0 (max a (-a))) (by omega)]
    omega
theorem mx_nonneg (l : List Int) : 0 ≤ mx l := (mx_le l 0).1
theorem mx_app (a b : List Int) : mx (a ++ b) = max (mx a) (mx b) := by
  show (a ++ b).foldl _ 0 = _
  rw [List.foldl_append]; exact mx_from b _ (mx_nonneg a)
theorem mx_rot (k : Nat) (r : List Int) : mx (rot k r) = mx r := by
  have : mx r = max (mx (r.take k)) (mx (r.drop k)) := by rw [← mx_app, List.take_append_drop]
  unfold rot; rw [mx_app, this]; omega
theorem mx_flat_rot (t : List (List Int)) (k : Nat) : mx (t.map (rot k)).flatten = mx t.flatten := by
  induction t with
  | nil => rfl
  | cons a t ih => simp only [List.map_cons, List.flatten_cons, mx_app, mx_rot, ih]
theorem kspread_rot {t : List (List Int)} (h : rowsOk t) (k : Nat) : kspread (t.map (rot k)) = mx t.flatten := by
  rw [kspread_in (rowsOk_rot h k), mx_flat_rot]

set_option maxHeartbeats 2000000 in
theorem wFnKeyRowsTurn (a : Option Addr) (len cap : Nat) (z : List Int) (a1 : Option Addr) (len1 cap1 : Nat) (z1 : List Int) (w : World) (h : IsRow .u8 w a len cap z) (_ : IsRow .u8 w a1 len1 cap1 z1) :
    Calls Try.prog 6 #[.slice a len cap, .slice a1 len1 cap1] w fun e w' => e = .returned (.bool true) ∧ Below w.heap.size w w' := by
  obtain ⟨i0, hi0, hz0, hz1, hz2⟩ := info_parts Try.info_int
  obtain ⟨j0, hj0, hy0, hy1, hy2⟩ := info_parts Try.info_row
  have H := Lib.hid h; clear h
  by_cases hl : 1048576 < len
  · go_enter Try.func6, Try.ntmps6
    go_wp2_with fail
    go_ret
    exact ⟨rfl, Below.refl _ _⟩
  by_cases hl1 : 1048576 < len1
  · have d1 : decide ((1048576 : Int) < (len1 : Int)) = true := by simp; omega
    go_enter Try.func6, Try.ntmps6
    go_wp2_with fail
    go_ret
    exact ⟨rfl, Below.refl _ _⟩
  have d1 : decide ((1048576 : Int) < (len1 : Int)) = false := by simp; omega
  go_enter Try.func6, Try.ntmps6
  go_wp2_with fail
  refine (drawKeyRows _ _ _ _ _ H.out).mono ?_
  rintro e w1 ⟨v, t, us, rfl, ho, htl, hlens, hb⟩
  have HI := Lib.hid ho.ints
  have HO := Lib.hid ho
  have HM := Lib.hid (lensT_of htl hlens.out)
  obtain ⟨g, cp, rfl, hgb, hgs, hcp1, hcp2⟩ := ho.form
  clear ho
  by_cases hk0 : rowsOk t
  · have HK := Lib.hid hk0
    have ht1 : 1 ≤ t.length := hk0.2.1
    obtain ⟨k, hk16, hke⟩ := mod_nat len1 16 (by omega)
    have hke1 : (len1 : Int) % 16 = (k : Int) := hke
    have hke2 : (len1 : Int).tmod 16 = (k : Int) := by rw [Int.tmod_eq_emod_of_nonneg (by omega)]; exact hke
    have HR := Lib.hid (rowsOk_rot hk0 k)
    have HS := Lib.hid (kspread_in hk0)
    have HSR := Lib.hid (kspread_rot hk0 k)
    clear hk0 hke
    go_wp2_with fail
    with_reducible refine (iKeyRows_t _ _ _ t HI.out HM.out HK.out).mono ?_
    rintro e w' ⟨rfl, rfl⟩
    go_wp2_with fail
    with_reducible refine (sKeyRows_t _ _ _ t HI.out HM.out HK.out).mono ?_
    rintro e w' ⟨rfl, rfl⟩
    unfold maxLen at hcp2
    go_wp2_with fail
    go_loopw [9, 10] (fun v i wr => ∃ (n : Nat) (vs : List Value), n ≤ t.length ∧ i = .int .i64 n ∧ OwnU wr w1.heap.size v ((t.take n).map (rot k)) vs ∧ Below w1.heap.size w1 wr) (fun _ i _ => t.length - (intOf i).toNat)
    case atStart => exact ⟨0, [], by omega, rfl, OwnU.empty w1 _ (Nat.le_refl _), (Below.refl _ _).alloc (Nat.le_refl _) _⟩
    case round =>
      obtain ⟨n, vs, hn, rfl, hox, hbel⟩ := hrel
      have HOX := Lib.hid hox
      obtain ⟨gx, cx, rfl, hgx, hgxs, hcx1, hcx2⟩ := hox.form
      have hlx : ((t.take n).map (rot k)).length = n := by simp; omega
      rw [hlx] at HOX hcx1 ⊢
      by_cases hlt : n < t.length
      · obtain ⟨gi, ci, hu, hc, hgi1, hgi2, hgi3, hci1, hci2, hoi⟩ := HO.out.row hlt
        obtain ⟨r, hrr⟩ : ∃ r, t[n]?.getD [] = r := ⟨_, rfl⟩
        have hr16 := (HK.out.1 n hlt).1
        rw [hrr] at hr16 hc hci1 hoi
        have HRR := Lib.hid hrr
        have hci3 : 16 ≤ ci := by omega
        unfold maxLen at hci2
        rw [hr16] at hc hoi
        have HC := Lib.hid hc
        have HOI := Lib.hid hoi
        have H16 := Lib.hid hr16
        have HSN : Hid ((t.take (n + 1)).map (rot k) = (t.take n).map (rot k) ++ [rot k r]) := by
          unfold Hid
          rw [List.take_succ_eq_append_getElem hlt]
          rw [List.getElem?_eq_getElem hlt] at hrr; simp at hrr; simp [hrr]
        have HLX := Lib.hid hlx
        have HOU : Hid (wr.ownsRow w1.heap.size 26 1 (.slice (some ⟨gx, 0, none⟩) n cx) n vs) := by have := HOX.out.outer; rw [hlx] at this; exact this
        have hcw : ∀ W : World, Below w1.heap.size w1 W → W.cell? ⟨g, n, none⟩ = some (.slice (some ⟨gi, 0, none⟩) 16 ci) := fun W hW => (hW.cell (p := ⟨g, n, none⟩) hgs).trans HC.out
        have HCW := Lib.hid hcw
        have c1 := hcw wr hbel
        have c2 := fun o => hcw (wr.alloc o) (hbel.alloc hbel.size o)
        have hki : (k : Int) < 16 := by omega
        have hki3 : (k : Int) ≤ 16 := by omega
        have hki4 : (0 : Int) ≤ (k : Int) := by omega
        have hki2 : (k : Int) ≤ (ci : Int) := by omega
        have hni : (n : Int) < (t.length : Int) := by omega
        have hkne : ¬ ci = k := by omega
        clear hu hrr hr16 hc hoi hcw hlx hox
        have HE : Hid (OwnI (wr.alloc (.cells #[] 3)).drew wr.heap.size (.slice (some ⟨wr.heap.size, 0, none⟩) 0 0) []) := OwnI.empty wr wr.heap.size (Nat.le_refl _)
        have HKI : Hid (IntS (wr.alloc (.cells #[] 3)).drew (fun j => j < w1.heap.size) (.slice (some ⟨gi, 0, none⟩) 16 ci) r) := ((HOI.out.ints.mono (fun _ _ h => h)).below hbel).alloc _
        have hsrc := Lib.hid ((HKI.out.drop k (by have := H16.out; omega)).srcAt)
        have hB0 : Hid (Below w1.heap.size w1 (wr.alloc (.cells #[] 3)).drew) := (hbel.alloc hbel.size _).drew
        have hsz := hbel.size
        go_wp2_with fail
        go_region_law (first
          | (refine step_append_own _ rfl (.tmp 46) (.tmp 52) 26 rfl wr.heap.size 3 i0 (.int .i64 0) 1 8 Try.underlying26 hi0 hz0 hz1 hz2 rfl (by decide) (.slice (some ⟨wr.heap.size, 0, none⟩) 0 0) 0 [] (by simp [Act.eval, Act.put]) HE.out.1 ⟨gi, k, none⟩ (16 - k) (ci - k) ((r.drop k).map (Value.int .i64)) (by simp [Act.eval, Act.put]) (by have := H16.out; simp; omega) hsrc.out (one_ints _) (by unfold maxLen; omega) (by omega) (by simp) ?_; intro v2 w2 hown2 hgrow2 hnil2; have O2 : Hid (OwnI w2 wr.heap.size v2 (r.drop k)) := ⟨by have := H16.out; simpa [this] using hown2, fun e => (by have := (hnil2.1 e).1; simp at this)⟩; have Hk2 := Lib.hid (HKI.out.grown hgrow2 (fun j e => by cases e; show ¬ wr.heap.size < w1.heap.size; omega)); have hsrc2 := Lib.hid ((Hk2.out.take k (by have := H16.out; omega)).srcAt); have B2 := Lib.hid (hB0.out.grown hgrow2 (by simp; omega) (fun j e => by cases e; exact hsz)); have S2 : Hid (wr.heap.size ≤ w2.heap.size) := (by have := hgrow2.size; unfold Hid; simp at this; omega); have c3 := HCW.out w2 B2.out; have G2 : Hid (wr.grownBy w2 (some wr.heap.size)) := (grow_trans (World.grownBy_alloc _ _ _) (ungrow_drew hgrow2)); clear hown2 hgrow2 hnil2)
          | (refine step_append_own _ rfl (.tmp 53) (.tmp 59) 26 rfl wr.heap.size 3 i0 (.int .i64 0) 1 8 Try.underlying26 hi0 hz0 hz1 hz2 rfl (by decide) v2 (r.drop k).length ((r.drop k).map (Value.int .i64)) (by simp [Act.eval, Act.put]) O2.out.1 ⟨gi, 0, none⟩ k ci ((r.take k).map (Value.int .i64)) (by simp [Act.eval, Act.put]) (by have := H16.out; simp; omega) hsrc2.out (one_ints _) (by have := H16.out; unfold maxLen; simp; omega) (by have := H16.out; simp; omega) S2.out ?_; intro v3 w3 hown3 hgrow3 hnil3; have o3 : OwnI w3 wr.heap.size v3 (rot k r) := OwnI.join (by have := H16.out; simp; omega) O2.out hown3 (fun e => O2.out.2 (hnil3.1 e).1); have O3 := Lib.hid o3; have hob := own_block O2.out; have B3 := Lib.hid (B2.out.grown hgrow3 B2.out.size (fun j e => Nat.le_trans hsz (hob j e))); have P3 := Lib.hid ((HOX.out.keptB G2.out (fun q e hh => by cases e; have := (HOX.out.blk hh).2; omega)).keptB hgrow3 (fun q e hh => by have := (HOX.out.blk hh).2; have := hob q e; omega)); have hou3 : Hid (w3.ownsRow w1.heap.size 26 1 (.slice (some ⟨gx, 0, none⟩) n cx) n vs) := (by have := P3.out.outer; rw [HLX.out] at this; exact this); have S3 : Hid (wr.heap.size ≤ w3.heap.size) := Nat.le_trans S2.out hgrow3.size; obtain ⟨g3, cp3, rfl, hg3, _⟩ := o3.form; clear hown3 hgrow3 hnil3 o3 hob)
          | (refine step_append_own_at _ rfl (.tmp 45) (.tmp 61) 23 rfl w1.heap.size 26 j0 (.slice none 0 0) 1 24 Try.underlying23 hj0 hy0 hy1 hy2 rfl (by decide) (.slice (some ⟨gx, 0, none⟩) n cx) n vs (by simp [Act.eval]) (hou3.out.alloc _) ⟨w3.heap.size, 0, none⟩ 1 1 [.slice (some ⟨g3, 0, none⟩) (rot k r).length cp3] (by simp [Act.eval]) rfl (cell_one_new _ _ _) (by simp [Value.oneCell']) (by unfold maxLen; omega) (by omega) (by have := S3.out; simp; omega) ?_; intro v4 w4 hown4 hgrow4 hnil4 hat4; have o4 := (P3.out.alloc (.cells #[.slice (some ⟨g3, 0, none⟩) (rot k r).length cp3] 26)).push ((O3.out.mono hsz).alloc _) (fun q e hh => (by obtain rfl : g3 = q := (by simpa [Value.ownBlock] using e); have := (HOX.out.blk hh).2; omega)) (by rw [HLX.out]; exact hown4) hgrow4 (fun e => by have := (hnil4.1 e).1; simp at this) (by rcases hat4 with e | e; exact .inl e; exact .inr ⟨_, e, by simp⟩); rw [← HSN.out] at o4; have O4 := Lib.hid o4; have B4 := Lib.hid ((B3.out.alloc B3.out.size (.cells #[.slice (some ⟨g3, 0, none⟩) (rot k r).length cp3] 26)).grown hgrow4 (by have := S3.out; simp; omega) (fun q e => by cases e; exact hgx)); obtain ⟨g4, cp4, hv4, _⟩ := o4.form; rw [show ((t.take (n + 1)).map (rot k)).length = n + 1 by simp; omega] at hv4; subst hv4; clear hown4 hgrow4 hnil4 hat4 o4))
        all_goals
          go_wp2_with fail
          go_roundw
          case rel => exact ⟨n + 1, _, by omega, by go_num, O4.out, B4.out⟩
          case measure => simp [intOf]; omega
      · have HT : Hid (t.take n = t) := List.take_of_length_le (by omega)
        have HIX : Hid (IntSS wr (w1.heap.size ≤ ·) (.slice (some ⟨gx, 0, none⟩) n cx) (t.map (rot k))) := by have := HOX.out.ints; rw [HT.out] at this; exact this
        have HIT := Lib.hid (HI.out.below hbel)
        go_wp2_with fail
        with_reducible refine (iKeyRows_t _ _ _ _ HIX.out (lensT_ok HR.out) HR.out).mono ?_
        rintro e w' ⟨rfl, rfl⟩
        go_wp2_with fail
        with_reducible refine (iKeySpread _ _ _ _ _ HIX.out (lensT_ok HR.out) HSR).mono ?_
        rintro e w' ⟨rfl, rfl⟩
        go_wp2_with fail
        with_reducible refine (iKeySpread _ _ _ _ _ HIT.out (lensT_ok HK.out) HS).mono ?_
        rintro e w' ⟨rfl, rfl⟩
        go_wp2_with fail
        go_ret
        exact ⟨rfl, hb.trans (hbel.mono hb.size)⟩
  · have HK := Lib.hid hk0
    clear hk0
    go_wp2_with fail
    with_reducible refine (iKeyRows_f _ _ _ t HI.out HM.out HK.out).mono ?_
    rintro e w' ⟨rfl, rfl⟩
    go_wp2_with fail
    with_reducible refine (sKeyRows_f _ _ _ t HI.out HM.out HK.out).mono ?_
    rintro e w' ⟨rfl, rfl⟩
    go_wp2_with fail
    go_ret
    exact ⟨rfl, hb⟩

end Go.Proofs.Ytahnabijaoimfaa
