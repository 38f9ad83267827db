/- The walk of the law: keys have any order. -/
import Derived.Test.YtgkndjplpnpikaaLawsK2
import Derived.Deep.RegionLaw
namespace Go.Proofs.Ytgkndjplpnpikaa
open Go.RowKit

/-- an append onto an own slice, as a step of a region that draws its order -/
theorem step_append_own {P : Program} (w : World) {ops : Array Oper} {o : Oper} {a : Act} {K : Act → World → Prop} {Q : Exit → Act → World → Prop} {E : Prop} (hgd : o.guard = none) (s x : Operand) (t : TypeId)
    (ho : o.op = .call { callee := .builtin .append, args := #[s, x], argTypes := #[t, t] })
    (base : Nat) (e : TypeId) (i : TypeInfo) (z : Value) (size bytes : Nat) (ht : P.underlying t = some (.slice e)) (hi : P.info? e = some i) (hz : i.zero = some z)
    (hsize : i.size = size) (hby : i.bytes = bytes) (hzs : z.cells.size = size) (hsz : 0 < size)
    (v : Value) (n : Nat) (xs : List Value) (hs : a.eval s = v) (hown : w.ownsRow base e size v n xs)
    (ad : Addr) (m c : Nat) (news : List Value) (hx : a.eval x = .slice (some ad) m c) (hl : news.length = m * size) (hnews : ∀ j u, news[j]? = some u → w.cell? (ad.add j) = some u) (h1 : ∀ u ∈ news, u.oneCell' = true)
    (h63 : n + m ≤ maxLen) (hbytes : (n + m) * bytes ≤ 140737488355328) (hbase : base ≤ w.heap.size)
    (h : ∀ v' w', w'.ownsRow base e size v' (n + m) (xs ++ news) → w.grownBy w' v.ownBlock → (v' = .slice none 0 0 ↔ v = .slice none 0 0 ∧ m = 0) → K (a.put o.dst v') w') :
    if Region.wanted o (yielded ops a.tmps) = true then Oper.wp P o a w K Q else E := by
  have hw : Region.wanted o (yielded ops a.tmps) = true := by simp [Region.wanted, hgd]
  rw [if_pos hw]
  exact wp_append_own w s x t ho base e i z size bytes ht hi hz hsize hby hzs hsz v n xs hs hown ad m c news hx hl hnews h1 h63 hbytes hbase h

theorem IntS.take {w : World} {P : Nat → Prop} {g cap : Nat} {zs : List Int} {n : Nat} (h : IntS w P (.slice (some ⟨g, 0, none⟩) n cap) zs) (k : Nat) (hk : k ≤ zs.length) :
    IntS w P (.slice (some ⟨g, 0, none⟩) k cap) (zs.take k) := by
  obtain ⟨a, c, hv, hl, hr⟩ := h
  cases hv
  have hl2 : (zs.take k).length = k := by simp; omega
  refine ⟨_, cap, by rw [hl2], by omega, fun i hi => ?_⟩
  obtain ⟨b, off, hb, hp, hc⟩ := hr i (by omega)
  exact ⟨b, off, hb, hp, by rw [hc, List.getElem?_take, if_pos (by omega)]⟩
theorem IntS.drop {w : World} {P : Nat → Prop} {g cap : Nat} {zs : List Int} {n : Nat} (h : IntS w P (.slice (some ⟨g, 0, none⟩) n cap) zs) (k : Nat) (hk : k ≤ zs.length) :
    IntS w P (.slice (some ⟨g, k, none⟩) (n - k) (cap - k)) (zs.drop k) := by
  obtain ⟨a, c, hv, hl, hr⟩ := h
  cases hv
  refine ⟨_, cap - k, by rw [List.length_drop], by simp; omega, fun i hi => ?_⟩
  rw [List.length_drop] at hi
  obtain ⟨b, off, hb, hp, hc⟩ := hr (k + i) (by omega)
  cases hb
  exact ⟨g, k, rfl, hp, by rw [List.getElem?_drop, ← hc]; congr 2; omega⟩
theorem IntS.srcAt {w : World} {P : Nat → Prop} {g o n cap : Nat} {zs : List Int} (h : IntS w P (.slice (some ⟨g, o, none⟩) n cap) zs) :
    ∀ j u, (zs.map (Value.int .i64))[j]? = some u → w.cell? ((⟨g, o, none⟩ : Addr).add j) = some u := by
  obtain ⟨a, c, hv, hl, hr⟩ := h
  cases hv
  intro j u hj
  rw [List.getElem?_map] at hj
  obtain ⟨x, hx, rfl⟩ := Option.map_eq_some_iff.1 hj
  obtain ⟨hlt, hx2⟩ := List.getElem?_eq_some_iff.1 hx
  obtain ⟨b, off, hb, hp, hc⟩ := hr j hlt
  cases hb
  rw [Go.WideShapes.add_plain, hc, hx]; rfl

theorem own_block {w : World} {base : Nat} {v : Value} {zs : List Int} (h : OwnI w base v zs) : ∀ j, v.ownBlock = some j → base ≤ j := by
  intro j e
  obtain ⟨g, c, rfl, hb, _⟩ := h.form
  cases e; exact hb

set_option maxHeartbeats 1000000 in
theorem wFnKeySum (a : Option Addr) (len cap : Nat) (z : List Int) (a1 : Option Addr) (len1 cap1 : Nat) (z1 : List Int) (w : World) (h : IsRow .u8 w a len cap z) (_ : IsRow .u8 w a1 len1 cap1 z1) :
    Calls Try.prog 4 #[.slice a len cap, .slice a1 len1 cap1] w fun e w' => e = .returned (.bool true) ∧ Below w.heap.size w w' := by
  obtain ⟨i0, hi0, hz0, hz1, hz2⟩ := info_parts Try.info_int
  have H := Lib.hid h; clear h
  by_cases hl : 1048576 < len
  · go_enter Try.func4, Try.ntmps4
    go_wp2_with fail
    go_ret
    exact ⟨rfl, Below.refl _ _⟩
  by_cases hl1 : 1048576 < len1
  · have d1 : decide ((1048576 : Int) < (len1 : Int)) = true := by simp; omega
    go_enter Try.func4, Try.ntmps4
    go_wp2_with fail
    go_ret
    exact ⟨rfl, Below.refl _ _⟩
  have d1 : decide ((1048576 : Int) < (len1 : Int)) = false := by simp; omega
  go_enter Try.func4, Try.ntmps4
  go_wp2_with fail
  refine (drawKeySum _ _ _ _ _ H.out).mono ?_
  rintro e w1 ⟨v, ks, rfl, ho, hkl, hb⟩
  have HO := Lib.hid ho
  have hi := Lib.hid ho.ints
  obtain ⟨g, cp, rfl, hgb, hgs, hcp1, hcp2⟩ := ho.form
  by_cases hk : keyOk ks
  · obtain ⟨s, hs⟩ : ∃ s, ks.sum % 16 = s := ⟨_, rfl⟩
    have HK := Lib.hid (ksV_at hk.1 hk.2 hs)
    have HS := Lib.hid hs
    obtain ⟨k, hkn, hke⟩ : ∃ k : Nat, k ≤ ks.length ∧ (len1 : Int) % ((ks.length : Int) + 1) = (k : Int) :=
      ⟨len1 % (ks.length + 1), by have := Nat.mod_lt len1 (show 0 < ks.length + 1 by omega); omega, by simp⟩
    have s1 : 0 ≤ s := by omega
    have ds : decide (0 ≤ s) = true := by simp; omega
    clear hs ho
    go_wp2_with fail
    with_reducible refine (iKeySum_at _ _ _ ks _ _ hi.out (by omega) HK).mono ?_
    rintro e w' ⟨rfl, rfl⟩
    go_wp2_with fail
    with_reducible refine (sKeySum_at _ _ _ ks _ _ hi.out (by omega) HK).mono ?_
    rintro e w' ⟨rfl, rfl⟩
    have hperm : Hid (ksV (ks.drop k ++ ks.take k) = .tuple #[.int .i64 s, .bool true]) := ksV_at (by
        intro y hy
        rcases List.mem_append.1 hy with h1 | h1
        · exact hk.1 y (List.mem_of_mem_drop h1)
        · exact hk.1 y (List.mem_of_mem_take h1)) (by have := hk.2; simp; omega) (by
        have := List.sum_append (l₁ := ks.take k) (l₂ := ks.drop k)
        rw [List.take_append_drop] at this
        rw [List.sum_append, ← HS.out, this]; congr 1; omega)
    obtain ⟨t1, ht1⟩ : ∃ t, (ks.take k).sum % 16 = t := ⟨_, rfl⟩
    obtain ⟨t2, ht2⟩ : ∃ t, (ks.drop k).sum % 16 = t := ⟨_, rfl⟩
    have HKt := Lib.hid (ksV_at (fun y hy => hk.1 y (List.mem_of_mem_take hy)) (by have := hk.2; simp; omega) ht1)
    have HKd := Lib.hid (ksV_at (fun y hy => hk.1 y (List.mem_of_mem_drop hy)) (by have := hk.2; simp; omega) ht2)
    have hsum : ks.sum = (ks.take k).sum + (ks.drop k).sum := by rw [← List.sum_append, List.take_append_drop]
    have t1a : 0 ≤ t1 := by omega
    have t1b : t1 < 16 := by omega
    have t2a : 0 ≤ t2 := by omega
    have t2b : t2 < 16 := by omega
    have dt : ((t1 + t2) % 16 == s) = true := by have := HS.out; simp; omega
    clear ht1 ht2 hsum hk
    have HO3 : Hid (OwnI (w1.alloc (.cells #[] 3)).drew w1.heap.size (.slice (some ⟨w1.heap.size, 0, none⟩) 0 0) []) := OwnI.empty w1 w1.heap.size (Nat.le_refl _)
    have HOd : Hid (IntS (w1.alloc (.cells #[] 3)).drew (fun j => j < w1.heap.size) (.slice (some ⟨g, 0, none⟩) ks.length cp) ks) := (hi.out.mono (fun _ _ h => h)).alloc _
    have hBd : Hid (Below w.heap.size w (w1.alloc (.cells #[] 3)).drew) := (hb.alloc hb.size _).drew
    have hkcp : k ≤ cp := by omega
    go_wp2_with fail
    rw [hke]
    by_cases hkc : k < cp
    · have hne : ¬ cp = k := by omega
      have hsrc := Lib.hid (((HO.out.alloc (.cells #[] 3)).ints.drop k hkn).srcAt)
      go_region_law (first
        | (refine step_append_own _ rfl (.tmp 64) (.tmp 67) 22 rfl w1.heap.size 3 i0 (.int .i64 0) 1 8 Try.underlying22 hi0 hz0 hz1 hz2 rfl (by decide) (.slice (some ⟨w1.heap.size, 0, none⟩) 0 0) 0 [] (by simp [Act.eval]) HO3.out.1 ⟨g, k, none⟩ (ks.length - k) (cp - k) ((ks.drop k).map (Value.int .i64)) (by simp [Act.eval]) (by simp; try omega) hsrc.out (one_ints _) (by unfold maxLen; omega) (by omega) (by simp) ?_; intro v2 w2 hown2 hgrow2 hnil2; have O2 : Hid (OwnI w2 w1.heap.size v2 (ks.drop k)) := ⟨by simpa using hown2, by simpa using hnil2⟩; have Hk2 := Lib.hid (HOd.out.grown hgrow2 (fun j e => by cases e; simp)); have hsrc2 := Lib.hid ((Hk2.out.take k hkn).srcAt); have B2 := Lib.hid (hBd.out.grown hgrow2 (by have := hb.size; simp; omega) (fun j e => by cases e; exact hb.size)); have S2 : Hid (w1.heap.size ≤ w2.heap.size) := (by have := hgrow2.size; unfold Hid; simp at this; omega); clear hown2 hgrow2 hnil2)
        | (refine step_append_own _ rfl (.tmp 68) (.tmp 71) 22 rfl w1.heap.size 3 i0 (.int .i64 0) 1 8 Try.underlying22 hi0 hz0 hz1 hz2 rfl (by decide) v2 (ks.drop k).length ((ks.drop k).map (Value.int .i64)) (by simp [Act.eval]) O2.out.1 ⟨g, 0, none⟩ k cp ((ks.take k).map (Value.int .i64)) (by simp [Act.eval]) (by simp; omega) hsrc2.out (one_ints _) (by unfold maxLen; simp; omega) (by simp; omega) S2.out ?_; intro v3 w3 hown3 hgrow3 hnil3; have o3 : OwnI w3 w1.heap.size v3 (ks.drop k ++ ks.take k) := OwnI.join (by simp; omega) O2.out hown3 (fun e => O2.out.2 (hnil3.1 e).1); have I3 := Lib.hid o3.ints; have hob := own_block O2.out; have B3 := Lib.hid (B2.out.grown hgrow3 B2.out.size (fun j e => Nat.le_trans hb.size (hob j e))); have Hk3 := Lib.hid (Hk2.out.grown hgrow3 (fun j e => by have := hob j e; omega)); clear hown3 hgrow3 hnil3 o3 hob)
        | (go_simp; go_at_call 9; (with_reducible refine (iKeySum_at _ _ _ _ _ _ I3.out (by simp; omega) hperm).mono ?_); rintro e w' ⟨rfl, rfl⟩))
      go_wp2_with fail
      with_reducible refine (iKeySum_at _ _ _ _ _ _ (Hk3.out.take k hkn) (by simp; omega) HKt).mono ?_
      rintro e w' ⟨rfl, rfl⟩
      go_wp2_with fail
      with_reducible refine (iKeySum_at _ _ _ _ _ _ (Hk3.out.drop k hkn) (by simp; omega) HKd).mono ?_
      rintro e w' ⟨rfl, rfl⟩
      go_wp2_with fail
      go_ret
      exact ⟨rfl, B3.out⟩
    · obtain rfl : k = cp := by omega
      have hkl2 : ks.length = k := by omega
      have hdr : ks.drop k = [] := by rw [← hkl2]; simp
      have hE : Hid (∀ w4 : World, IntS w4 (fun _ => True) (.slice (some ⟨g, 0, none⟩) 0 0) (ks.drop k)) := by intro w4; rw [hdr]; exact ⟨_, 0, rfl, Nat.le_refl _, fun i hi => by simp at hi⟩
      have hp2 : Hid (ksV ([] ++ ks.take k) = .tuple #[.int .i64 s, .bool true]) := by have := hperm.out; rw [hdr] at this; exact this
      have hsrc2 := Lib.hid ((HOd.out.take k hkn).srcAt)
      clear hdr hkl2
      go_region_law (first
        | (refine step_append_own _ rfl (.tmp 68) (.tmp 71) 22 rfl w1.heap.size 3 i0 (.int .i64 0) 1 8 Try.underlying22 hi0 hz0 hz1 hz2 rfl (by decide) (.slice (some ⟨w1.heap.size, 0, none⟩) 0 0) 0 [] (by simp [Act.eval]) HO3.out.1 ⟨g, 0, none⟩ k k ((ks.take k).map (Value.int .i64)) (by simp [Act.eval]) (by simp; omega) hsrc2.out (one_ints _) (by unfold maxLen; omega) (by omega) (by simp) ?_; intro v3 w3 hown3 hgrow3 hnil3; have o3 : OwnI w3 w1.heap.size v3 ([] ++ ks.take k) := OwnI.join (by simp; omega) HO3.out hown3 (by simpa using hnil3); have I3 := Lib.hid o3.ints; have B3 := Lib.hid (hBd.out.grown hgrow3 (by have := hb.size; simp; omega) (fun j e => by cases e; exact hb.size)); have Hk3 := Lib.hid (HOd.out.grown hgrow3 (fun j e => by cases e; simp)); clear hown3 hgrow3 hnil3 o3)
        | (go_simp; go_at_call 9; (with_reducible refine (iKeySum_at _ _ _ _ _ _ I3.out (by simp; omega) hp2).mono ?_); rintro e w' ⟨rfl, rfl⟩))
      go_wp2_with fail
      with_reducible refine (iKeySum_at _ _ _ _ _ _ (Hk3.out.take k hkn) (by simp; omega) HKt).mono ?_
      rintro e w' ⟨rfl, rfl⟩
      go_wp2_with fail
      with_reducible refine (iKeySum_at _ _ _ _ _ _ (hE.out _) (by simp; omega) HKd).mono ?_
      rintro e w' ⟨rfl, rfl⟩
      go_wp2_with fail
      go_ret
      exact ⟨rfl, B3.out⟩
  · have HK := Lib.hid (ksV_no hk)
    clear hk ho
    go_wp2_with fail
    with_reducible refine (iKeySum_at _ _ _ ks _ _ hi.out (by omega) HK).mono ?_
    rintro e w' ⟨rfl, rfl⟩
    go_wp2_with fail
    with_reducible refine (sKeySum_at _ _ _ ks _ _ hi.out (by omega) HK).mono ?_
    rintro e w' ⟨rfl, rfl⟩
    go_wp2_with fail
    go_ret
    exact ⟨rfl, hb⟩

end Go.Proofs.Ytgkndjplpnpikaa
