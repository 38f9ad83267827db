/- The walk of the law: rows have any order. -/
import Derived.Test.YtnkgbgeffpeolaaLawsM2
import Derived.Test.YtnkgbgeffpeolaaRegW
namespace Go.Proofs.Ytnkgbgeffpeolaa
open Go.RowKit

theorem intss_outer {w : World} {base : Nat} {e : TypeId} {v : Value} {n : Nat} {us : List Value} {L : List (List Int)} (ho : w.ownsRow base e 1 v n us) (hn : v ≠ .slice none 0 0) (hl : L.length = n)
    (hr : ∀ i, i < n → ∃ ai ci, us[i]? = some (.slice ai (L[i]?.getD []).length ci) ∧ (L[i]?.getD []).length ≤ ci ∧ RowIn w (fun _ => True) ai (L[i]?.getD [])) : IntSS w (fun _ => True) v L := by
  rcases ho.2 with ⟨rfl, h0⟩ | ⟨g, cap, cur, rfl, hb, hh, hn2, hm, hs, ht⟩
  · exact absurd rfl hn
  · refine ⟨_, cap, by rw [hl], by omega, fun i hi => ?_⟩
    obtain ⟨ai, ci, hu, hc, hrow⟩ := hr i (by omega)
    refine ⟨g, 0, ai, ci, rfl, trivial, ?_, hc, hrow⟩
    rw [Nat.zero_add, ho.cellAt i (by omega), hu]
theorem OwnU.rowIn {w : World} {base g n cap : Nat} {t : List (List Int)} {us : List Value} (h : OwnU w base (.slice (some ⟨g, 0, none⟩) n cap) t us) {i : Nat} (hi : i < t.length) :
    ∃ ai ci, us[i]? = some (.slice ai (t[i]?.getD []).length ci) ∧ (t[i]?.getD []).length ≤ ci ∧ RowIn w (fun _ => True) ai (t[i]?.getD []) := by
  obtain ⟨gi, ci, hu, _, _, _, _, hl, _, ho⟩ := h.row hi
  obtain ⟨a, c, hv, _, hr⟩ := ho.ints
  cases hv
  exact ⟨_, _, hu, hl, hr.mono (fun _ _ _ => trivial)⟩
theorem OwnU.one' {w : World} {base g n cap : Nat} {t : List (List Int)} {us : List Value} (h : OwnU w base (.slice (some ⟨g, 0, none⟩) n cap) t us) : ∀ u ∈ us, u.oneCell' = true := by
  intro u hu
  obtain ⟨i, hi, rfl⟩ := List.getElem_of_mem hu
  obtain ⟨ai, ci, h2, _⟩ := h.rowIn (i := i) (by rw [← h.len]; exact hi)
  rw [List.getElem?_eq_getElem hi] at h2
  have e := Option.some.inj h2
  show (us.get ⟨i, hi⟩).oneCell' = true
  rw [show us.get ⟨i, hi⟩ = us[i] from rfl, e]
  rfl

/-- the values of the region's operations -/
def OrdF (g cp h k n0 : Nat) (t : List (List Int)) (ul : Value) (b m : Int) : Nat → Value → World → Prop
  | 0, v, _ => v = .slice (some ⟨g, 0, none⟩) h cp
  | 1, v, _ => v = .int .i64 (h : Int)
  | 2, v, _ => v = .int .i64 (k : Int)
  | 3, v, _ => v = .pointer (some ⟨g, k, none⟩)
  | 4, v, _ => v = ul
  | 5, v, _ => v = .slice (some ⟨n0, 0, none⟩) 1 1
  | 6, v, _ => v = .slice (some ⟨g, 0, none⟩) h cp
  | 7, v, _ => v = .int .i64 (h : Int)
  | 8, v, _ => v = .int .i64 (k : Int)
  | 9, v, _ => v = .slice (some ⟨g, 0, none⟩) k cp
  | 10, v, w => IntSS w (fun _ => True) v (lastT t)
  | 11, v, _ => v = .int .i64 b
  | 12, v, _ => v = .int .i64 m
  | 13, v, _ => v = .int .i64 m
  | 14, v, _ => v = .bool true
  | 15, v, _ => v = .bool true
  | _, _, _ => True
theorem ordF_pure {g cp h k n0 : Nat} {t : List (List Int)} {ul : Value} {b m : Int} {bt : Nat → Bool} {W W' : World} (h10 : bt 10 = true → ∀ v, IntSS W (fun _ => True) v (lastT t) → IntSS W' (fun _ => True) v (lastT t)) :
    ∀ j v, bt j = true → OrdF g cp h k n0 t ul b m j v W → OrdF g cp h k n0 t ul b m j v W'
  | 0, _, _, hf => hf
  | 1, _, _, hf => hf
  | 2, _, _, hf => hf
  | 3, _, _, hf => hf
  | 4, _, _, hf => hf
  | 5, _, _, hf => hf
  | 6, _, _, hf => hf
  | 7, _, _, hf => hf
  | 8, _, _, hf => hf
  | 9, _, _, hf => hf
  | 10, v, hb, hf => h10 hb v hf
  | 11, _, _, hf => hf
  | 12, _, _, hf => hf
  | 13, _, _, hf => hf
  | 14, _, _, hf => hf
  | 15, _, _, hf => hf
  | _ + 16, _, _, _ => trivial

set_option maxRecDepth 100000 in
set_option maxHeartbeats 4000000 in
theorem wFnControlOrder (a : Option Addr) (len cap : Nat) (z : List Int) (w : World) (h : IsRow .u8 w a len cap z) :
    Calls Try.prog 5 #[.slice a len cap] w fun e w' => e = .returned (.bool true) ∧ Below w.heap.size w w' := by
  obtain ⟨i0, hi0, hz0, hz1, hz2⟩ := info_parts Try.info_row
  have H := Lib.hid h; clear h
  by_cases hl : 1048576 < len
  · go_enter Try.func5, Try.ntmps5
    go_wp2_with fail
    go_ret
    exact ⟨rfl, Below.refl _ _⟩
  go_enter Try.func5, Try.ntmps5
  go_wp2_with fail
  refine (drawControlMany _ _ _ _ _ H.out).mono ?_
  rintro e w1 ⟨g, cp, t, us, b, rfl, ho, hd, hb1, hb2, bl1⟩
  have LD := Lib.hid (lensD hd.out)
  go_wp2_with fail
  with_reducible refine (iControlMany _ _ _ t b ho.out.ints LD.out).mono ?_
  rintro e w2 ⟨rfl, bl2⟩
  obtain ⟨m, hm⟩ : ∃ m, manyR t b = m := ⟨_, rfl⟩
  rw [hm]
  go_wp2_with fail
  with_reducible refine (sControlMany _ _ _ t b (ho.out.ints.below bl2) LD.out).mono ?_
  rintro e w3 ⟨rfl, bl3⟩
  rw [hm]
  have B3 := Lib.hid (bl2.trans (bl3.mono bl2.size))
  have HO3 := Lib.hid (ho.out.below B3.out)
  clear bl2 bl3 ho
  by_cases hs : small t b
  · have hm0 : 0 ≤ m := by rw [← hm]; exact many_big hs
    have hlt := hs.1.2.1
    have hl0 : 1 ≤ t.length := hs.1.1
    have HTK := Lib.hid hs.1
    have HML : Hid (manyR (lastT t) b = m) := by
      have e1 := last_len (t := t) hs.1.1
      have e2 := last_wid0 hs.1 (i := 0) (by omega)
      unfold Hid
      rw [← hm]
      unfold manyR
      rw [if_pos hs, if_pos ⟨last_ok hs.1, by rw [e1, e2]; exact hs.2.1, hs.2.2⟩, cnt_last hs.1 hs.2.2.1 hs.2.2.2]
    have LL : Hid (lensT (lastT t)) := lens_ok (last_ok hs.1)
    clear hm hs
    obtain ⟨k, hk⟩ : ∃ k, t.length = k + 1 := ⟨t.length - 1, by omega⟩
    obtain ⟨ul, hul⟩ : ∃ u, us[k]? = some u := by
      obtain ⟨ai, ci, hu, _⟩ := HO3.out.rowIn (i := k) (by omega)
      exact ⟨_, hu⟩
    obtain ⟨g', cp', e1, _, _, hcp, _⟩ := HO3.out.form
    cases e1
    have HKL := Lib.hid hk
    clear hk
    go_wp2_with fail
    refine region_sw (by kernel_rfl) (by kernel_rfl) (by kernel_rfl) (fun bt W => Below w3.heap.size w3 W ∧ (bt 5 = false → W.heap.size = w3.heap.size) ∧ (bt 5 = true → bt 10 = false → W.ownsRow w3.heap.size 30 1 (.slice (some ⟨w3.heap.size, 0, none⟩) 1 1) 1 [ul]))
      (OrdF g cp t.length k w3.heap.size t ul b m) ?start ?step ?fin
    case start => exact ⟨(Below.refl _ _).drew, fun _ => rfl, fun h => by cases h⟩
    case step =>
      intro a W bt hG hf i o ho hni hcl hdb hdep
      obtain ⟨hbl, hG5, hG10⟩ := id hG
      have hk := HKL.out
      have e3 : a.eval (.tmp 3) = .slice (some ⟨g, 0, none⟩) t.length cp := hf 3 (by kernel_rfl)
      have e4 : a.eval (.tmp 4) = .int .i64 b := hf 4 (by kernel_rfl)
      have e5 : a.eval (.tmp 5) = .int .i64 m := hf 5 (by kernel_rfl)
      have e7 : a.eval (.tmp 7) = .int .i64 (t.length : Int) := hf 7 (by kernel_rfl)
      have hou := HO3.out.below hbl
      have hcell : W.cell? ⟨g, k, none⟩ = some ul := hou.rowCell (by omega) hul
      have sw : IntKind.i64.wrap ((t.length : Int) - 1) = (k : Int) := by rw [IntKind.wrap_i64]; omega
      have kn : (k : Int) < (t.length : Int) := by omega
      have kcp : (k : Int) ≤ (cp : Int) := by omega
      have hG2 : ∀ j, j ≠ 5 → j ≠ 10 → Below w3.heap.size w3 W ∧ ((if 5 = j then true else bt 5) = false → W.heap.size = w3.heap.size) ∧ ((if 5 = j then true else bt 5) = true → (if 10 = j then true else bt 10) = false → W.ownsRow w3.heap.size 30 1 (.slice (some ⟨w3.heap.size, 0, none⟩) 1 1) 1 [ul]) := fun j h1 h2 => by
        rw [if_neg (Ne.symm h1), if_neg (Ne.symm h2)]; exact hG
      have hP : ∀ j v, bt j = true → OrdF g cp t.length k w3.heap.size t ul b m j v W → OrdF g cp t.length k w3.heap.size t ul b m j v W := fun _ _ _ h => h
      rcases i with _ | i
      · cases ho
        exact ⟨rfl, _, rfl, hG2 0 (by decide) (by decide), e3, hP⟩
      rcases i with _ | i
      · cases ho
        exact ⟨rfl, _, rfl, hG2 1 (by decide) (by decide), e7, hP⟩
      rcases i with _ | i
      · cases ho
        have h1 : a.eval (.tmp 35) = .int .i64 (t.length : Int) := hdep 1 (by kernel_rfl) _ rfl
        exact ⟨rfl, op_val (v := .int .i64 (k : Int)) (w' := W) (by simp [go_sem, evT h1, sw]) ⟨_, rfl, hG2 2 (by decide) (by decide), rfl, hP⟩⟩
      rcases i with _ | i
      · cases ho
        have h1 : a.eval (.tmp 34) = .slice (some ⟨g, 0, none⟩) t.length cp := hdep 0 (by kernel_rfl) _ rfl
        have h2 : a.eval (.tmp 36) = .int .i64 (k : Int) := hdep 2 (by kernel_rfl) _ rfl
        exact ⟨rfl, op_val (v := .pointer (some ⟨g, k, none⟩)) (w' := W) (by simp [go_sem, evT h1, evT h2, kn]) ⟨_, rfl, hG2 3 (by decide) (by decide), rfl, hP⟩⟩
      rcases i with _ | i
      · cases ho
        have h1 : a.eval (.tmp 37) = .pointer (some ⟨g, k, none⟩) := hdep 3 (by kernel_rfl) _ rfl
        exact ⟨rfl, op_val (v := ul) (w' := W) (by simp [go_sem, evT h1, hcell]) ⟨_, rfl, hG2 4 (by decide) (by decide), rfl, hP⟩⟩
      rcases i with _ | i
      · cases ho
        have h1 : a.eval (.tmp 38) = ul := hdep 4 (by kernel_rfl) _ rfl
        have hsz := hG5 hni
        have hone : ul.oneCell' = true := HO3.out.one' ul (List.mem_of_getElem? hul)
        refine ⟨rfl, op_val (v := .slice (some ⟨w3.heap.size, 0, none⟩) 1 1) (w' := W.alloc (.cells #[ul] 30)) ?_ ⟨_, rfl, ⟨hbl.alloc hbl.size _, fun h => by simp at h, fun _ _ => ?_⟩, rfl, ?_⟩⟩
        · rw [← hsz]
          obtain ⟨ai, ci, hu, _⟩ := HO3.out.rowIn (i := k) (by omega)
          rw [hul] at hu
          cases hu
          simp [go_sem, evT h1]
        · have := World.ownsRow_lit (e := 30) (size := 1) (base := w3.heap.size) W #[ul] 1 (by omega) (by unfold maxLen; omega) rfl
          rw [hsz] at this; exact this
        · refine ordF_pure (fun h10 => ?_)
          have := hcl 10 _ h10 rfl 5 (by kernel_rfl)
          rw [hni] at this; cases this
      rcases i with _ | i
      · cases ho
        exact ⟨rfl, _, rfl, hG2 6 (by decide) (by decide), e3, hP⟩
      rcases i with _ | i
      · cases ho
        exact ⟨rfl, _, rfl, hG2 7 (by decide) (by decide), e7, hP⟩
      rcases i with _ | i
      · cases ho
        have h1 : a.eval (.tmp 41) = .int .i64 (t.length : Int) := hdep 7 (by kernel_rfl) _ rfl
        exact ⟨rfl, op_val (v := .int .i64 (k : Int)) (w' := W) (by simp [go_sem, evT h1, sw]) ⟨_, rfl, hG2 8 (by decide) (by decide), rfl, hP⟩⟩
      rcases i with _ | i
      · cases ho
        have h1 : a.eval (.tmp 40) = .slice (some ⟨g, 0, none⟩) t.length cp := hdep 6 (by kernel_rfl) _ rfl
        have h2 : a.eval (.tmp 42) = .int .i64 (k : Int) := hdep 8 (by kernel_rfl) _ rfl
        exact ⟨rfl, op_val (v := .slice (some ⟨g, 0, none⟩) k cp) (w' := W) (by simp [go_sem, evT h1, evT h2, kcp]) ⟨_, rfl, hG2 9 (by decide) (by decide), rfl, hP⟩⟩
      rcases i with _ | i
      · cases ho
        have h1 : a.eval (.tmp 39) = .slice (some ⟨w3.heap.size, 0, none⟩) 1 1 := hdep 5 (by kernel_rfl) _ rfl
        have h2 : a.eval (.tmp 43) = .slice (some ⟨g, 0, none⟩) k cp := hdep 9 (by kernel_rfl) _ rfl
        have hown := hG10 (hdb 5 (by kernel_rfl)) hni
        have hl2 : (us.take k).length = k * 1 := by simp; rw [HO3.out.len]; omega
        have hsrc : ∀ j u, (us.take k)[j]? = some u → W.cell? ((⟨g, 0, none⟩ : Addr).add j) = some u := fun j u hj => by
          rw [List.getElem?_take] at hj
          split at hj
          · exact hou.outer.cells rfl j u hj
          · cases hj
        refine ⟨rfl, wp_append_own W (.tmp 39) (.tmp 43) 22 rfl w3.heap.size 30 i0 (.slice none 0 0) 1 24 Try.underlying22 hi0 hz0 hz1 hz2 rfl (by decide) _ 1 [ul] h1 hown ⟨g, 0, none⟩ k cp (us.take k) h2 hl2 hsrc (fun u hu => HO3.out.one' u (List.mem_of_mem_take hu)) (by unfold maxLen; omega) (by omega) hbl.size ?_⟩
        intro v' w' hown' hgrow hnil
        refine ⟨_, rfl, ⟨hbl.grown hgrow hbl.size (fun q e => by cases e; exact Nat.le_refl _), fun h => by have := hdb 5 (by kernel_rfl); simp [this] at h, fun _ h => by simp at h⟩, ?_, ordF_pure (fun h10 => by rw [hni] at h10; cases h10)⟩
        have hb2' : Below w3.heap.size w3 w' := hbl.grown hgrow hbl.size (fun q e => by cases e; exact Nat.le_refl _)
        have hou2 := HO3.out.below hb2'
        refine intss_outer hown' (by simpa using hnil) (by rw [last_len hl0]; omega) (fun i hi => ?_)
        rw [last_row (by omega)]
        by_cases e0 : i = 0
        · subst e0
          rw [if_pos rfl, show t.length - 1 = k by omega]
          obtain ⟨ai, ci, hu, h3, h4⟩ := hou2.rowIn (i := k) (by omega)
          rw [hul] at hu
          exact ⟨ai, ci, by rw [← hu]; rfl, h3, h4⟩
        · rw [if_neg e0]
          obtain ⟨ai, ci, hu, h3, h4⟩ := hou2.rowIn (i := i - 1) (by omega)
          refine ⟨ai, ci, ?_, h3, h4⟩
          rw [← hu, List.getElem?_append_right (by simp; omega), List.getElem?_take, if_pos (by simp; omega)]
          simp
      rcases i with _ | i
      · cases ho
        exact ⟨rfl, _, rfl, hG2 11 (by decide) (by decide), e4, hP⟩
      rcases i with _ | i
      · cases ho
        have h1 : IntSS W (fun _ => True) (a.eval (.tmp 44)) (lastT t) := hdep 10 (by kernel_rfl) _ rfl
        have h2 : a.eval (.tmp 45) = .int .i64 b := hdep 11 (by kernel_rfl) _ rfl
        obtain ⟨v, hv⟩ : ∃ v, a.eval (.tmp 44) = v := ⟨_, rfl⟩
        rw [hv] at h1
        refine ⟨rfl, op_enter (w' := W) (f := 14) (args := #[v, .int .i64 b]) (by simp [go_sem, evT hv, evT h2]) ?_⟩
        refine (iControlMany W _ v (lastT t) b h1 LL.out).mono ?_
        rintro e W2 ⟨rfl, hb3⟩
        have h5 := hdb 10 (by kernel_rfl)
        have h55 := hcl 10 _ h5 rfl 5 (by kernel_rfl)
        refine ⟨_, rfl, _, rfl, ⟨hbl.trans (hb3.mono hbl.size), fun h => by simp [h55] at h, fun _ h => by simp [h5] at h⟩, by rw [HML.out]; rfl, ordF_pure (fun _ v hv => hv.below hb3)⟩
      rcases i with _ | i
      · cases ho
        exact ⟨rfl, _, rfl, hG2 13 (by decide) (by decide), e5, hP⟩
      rcases i with _ | i
      · cases ho
        have h1 : a.eval (.tmp 46) = .int .i64 m := hdep 12 (by kernel_rfl) _ rfl
        have h2 : a.eval (.tmp 47) = .int .i64 m := hdep 13 (by kernel_rfl) _ rfl
        exact ⟨rfl, op_val (v := .bool true) (w' := W) (by simp [go_sem, evT h1, evT h2]) ⟨_, rfl, hG2 14 (by decide) (by decide), rfl, hP⟩⟩
      rcases i with _ | i
      · cases ho
        have h1 : a.eval (.tmp 48) = .bool true := hdep 14 (by kernel_rfl) _ rfl
        exact ⟨rfl, _, rfl, hG2 15 (by decide) (by decide), h1, hP⟩
      · cases ho
    case fin =>
      intro a W bt hsz' hdf hG hall hold hfact
      have h2 : a.eval (.tmp 2) = .bool true := hfact 15 _ rfl
      obtain ⟨hbl, _, _⟩ := hG
      obtain ⟨tm, df⟩ := a
      clear hfact hold hall
      go_wp2_with fail
      refine bodyPost_ret (results_tmp rfl _ _ _) rfl ?_
      exact ⟨ret_v h2, bl1.trans ((B3.out.trans (hbl.mono B3.out.size)).mono bl1.size)⟩
  · have hm0 : m = -1 := by rw [← hm]; exact many_small hs
    subst hm0
    clear hm hs
    go_wp2_with fail
    go_ret
    exact ⟨rfl, bl1.trans (B3.out.mono bl1.size)⟩

end Go.Proofs.Ytnkgbgeffpeolaa
