/- The walks of the laws on key sums whose keys are drawn out of a code. -/
import Derived.Test.YtgkndjplpnpikaaKeyS
import Derived.Test.YtgkndjplpnpikaaKeyD
import Derived.Test.YtgkndjplpnpikaaLawsK1
namespace Go.Proofs.Ytgkndjplpnpikaa
open Go.RowKit

theorem iKeySum_at (w : World) (P : Nat → Prop) (v : Value) (zs : List Int) (r : Int) (t : Bool) (h : IntS w P v zs) (hl : zs.length ≤ 1000000) (hk : Hid (ksV zs = .tuple #[.int .i64 r, .bool t])) :
    Calls Try.prog 9 #[v] w fun e w' => e = .returned (.tuple #[.int .i64 r, .bool t]) ∧ w = w' := by
  rw [← hk.out]; exact iKeySum w P v zs h (by omega)
theorem sKeySum_at (w : World) (P : Nat → Prop) (v : Value) (zs : List Int) (r : Int) (t : Bool) (h : IntS w P v zs) (hl : zs.length ≤ 1000000) (hk : Hid (ksV zs = .tuple #[.int .i64 r, .bool t])) :
    Calls Try.prog 7 #[v] w fun e w' => e = .returned (.tuple #[.int .i64 r, .bool t]) ∧ w = w' := by
  rw [← hk.out]; exact sKeySum w P v zs h (by omega)

/-- a literal -/
theorem IntS.lit (w : World) (zs : List Int) (cs : Array Value) (t : TypeId) (n b : Nat) (hb : w.heap.size = b) (hn : zs.length = n) (hc : cs = (zs.map (Value.int .i64)).toArray) :
    IntS (w.alloc (.cells cs t)) (b ≤ ·) (.slice (some ⟨b, 0, none⟩) n n) zs := by
  subst hn hc hb
  refine ⟨_, _, rfl, Nat.le_refl _, fun i hi => ⟨w.heap.size, 0, rfl, Nat.le_refl _, ?_⟩⟩
  rw [Nat.zero_add, cell_new]
  simp [List.getElem?_eq_getElem hi]

theorem ksV_at {zs : List Int} {r : Int} (h1 : ∀ z ∈ zs, 0 ≤ z ∧ z < 16) (h2 : zs.length ≤ 40) (h3 : zs.sum % 16 = r) : ksV zs = .tuple #[.int .i64 r, .bool true] := by
  rw [ksV_yes ⟨h1, h2⟩, h3]

/-- behind an append of a list -/
theorem OwnI.join {w w' : World} {base : Nat} {v v' : Value} {zs ys : List Int} {m : Nat} (hm : m = ys.length) (_ : OwnI w base v zs)
    (ho : w'.ownsRow base 3 1 v' (zs.length + m) (zs.map (Value.int .i64) ++ ys.map (Value.int .i64))) (hn : ¬ v' = .slice none 0 0) : OwnI w' base v' (zs ++ ys) :=
  ⟨by subst hm; simpa using ho, hn⟩
theorem OwnI.src {w : World} {base g n cap : Nat} {zs : List Int} (h : OwnI w base (.slice (some ⟨g, 0, none⟩) n cap) zs) :
    ∀ j u, (zs.map (Value.int .i64))[j]? = some u → w.cell? ((⟨g, 0, none⟩ : Addr).add j) = some u := h.1.cells rfl
theorem one_ints (zs : List Int) : ∀ u ∈ zs.map (Value.int .i64), u.oneCell' = true := by
  intro u hu
  obtain ⟨z, _, rfl⟩ := List.mem_map.1 hu
  rfl

set_option maxHeartbeats 400000 in
theorem wFnKeySumOne (a : Option Addr) (len cap : Nat) (z : List Int) (a1 : Option Addr) (len1 cap1 : Nat) (z1 : List Int) (w : World) (h : IsRow .u8 w a len cap z) (_ : IsRow .u8 w a1 len1 cap1 z1) :
    Calls Try.prog 6 #[.slice a len cap, .slice a1 len1 cap1] w fun e w' => e = .returned (.bool true) ∧ Below w.heap.size w w' := by
  have H := Lib.hid h; clear h
  by_cases hl : 1048576 < len
  · go_enter Try.func6, Try.ntmps6
    go_wp2_with fail
    go_ret
    exact ⟨rfl, Below.refl _ _⟩
  by_cases hl1 : 1048576 < len1
  · have d1 : decide ((1048576 : Int) < (len1 : Int)) = true := by simp; omega
    go_enter Try.func6, Try.ntmps6
    go_wp2_with fail
    go_ret
    exact ⟨rfl, Below.refl _ _⟩
  have d1 : decide ((1048576 : Int) < (len1 : Int)) = false := by simp; omega
  go_enter Try.func6, Try.ntmps6
  go_wp2_with fail
  refine (drawKeySum _ _ _ _ _ H.out).mono ?_
  rintro e w1 ⟨v, ks, rfl, ho, hkl, hb⟩
  have hi := Lib.hid ho.ints
  by_cases hk : keyOk ks
  · obtain ⟨s, hs⟩ : ∃ s, ks.sum % 16 = s := ⟨_, rfl⟩
    have HK := Lib.hid (ksV_at hk.1 hk.2 hs)
    have s1 : 0 ≤ s := by omega
    have s2 : s < 16 := by omega
    have ds : decide (s < 16) = true := by simp; omega
    clear hk hs ho
    go_wp2_with fail
    with_reducible refine (iKeySum_at _ _ _ ks _ _ hi.out (by omega) HK).mono ?_
    rintro e w' ⟨rfl, rfl⟩
    go_wp2_with fail
    with_reducible refine (sKeySum_at _ _ _ ks _ _ hi.out (by omega) HK).mono ?_
    rintro e w' ⟨rfl, rfl⟩
    have HK1 : Hid (ksV [1 + (len1 : Int) % 15] = .tuple #[.int .i64 (1 + (len1 : Int) % 15), .bool true]) := ksV_at (by intro y hy; simp at hy; omega) (by simp) (by simp; omega)
    have HK2 : Hid (ksV [1 + (len1 : Int) % 15, 16 - (1 + (len1 : Int) % 15)] = .tuple #[.int .i64 0, .bool true]) := ksV_at (by intro y hy; simp at hy; omega) (by simp) (by simp; omega)
    go_wp2_with fail
    with_reducible refine (iKeySum_at _ _ _ _ _ _ (IntS.lit _ [1 + (len1 : Int) % 15] #[.int .i64 (1 + (len1 : Int) % 15)] _ 1 _ rfl rfl rfl) (by simp) HK1).mono ?_
    rintro e w' ⟨rfl, rfl⟩
    go_wp2_with fail
    with_reducible refine (iKeySum_at _ _ _ _ _ _ (IntS.lit (w1.alloc _) [1 + (len1 : Int) % 15, 16 - (1 + (len1 : Int) % 15)] #[.int .i64 (1 + (len1 : Int) % 15), .int .i64 (16 - (1 + (len1 : Int) % 15))] _ 2 (w1.heap.size + 1) (by simp) rfl rfl) (by simp) HK2).mono ?_
    rintro e w' ⟨rfl, rfl⟩
    go_wp2_with fail
    go_ret
    exact ⟨rfl, (hb.alloc hb.size _).alloc (by have := hb.size; simp; omega) _⟩
  · have HK := Lib.hid (ksV_no hk)
    clear hk ho
    go_wp2_with fail
    with_reducible refine (iKeySum_at _ _ _ ks _ _ hi.out (by omega) HK).mono ?_
    rintro e w' ⟨rfl, rfl⟩
    go_wp2_with fail
    with_reducible refine (sKeySum_at _ _ _ ks _ _ hi.out (by omega) HK).mono ?_
    rintro e w' ⟨rfl, rfl⟩
    go_wp2_with fail
    go_ret
    exact ⟨rfl, hb⟩

theorem keyOk_rep {ks : List Int} {c : Int} (h : ∀ z ∈ ks, 0 ≤ z ∧ z < 16) (c0 : 0 ≤ c) (c1 : c < 16) (n : Nat) : ∀ z ∈ ks ++ List.replicate n c, 0 ≤ z ∧ z < 16 := by
  intro z hz
  rcases List.mem_append.1 hz with h1 | h1
  · exact h z h1
  · have := List.eq_of_mem_replicate h1; omega
theorem sum_rep (ks : List Int) (c : Int) : (ks ++ List.replicate 16 c).sum = ks.sum + 16 * c := by
  rw [List.sum_append]
  have : (List.replicate 16 c).sum = 16 * c := by simp [List.replicate]; omega
  omega

set_option maxHeartbeats 400000 in
theorem wFnKeySumNone (a : Option Addr) (len cap : Nat) (z : List Int) (a1 : Option Addr) (len1 cap1 : Nat) (z1 : List Int) (w : World) (h : IsRow .u8 w a len cap z) (_ : IsRow .u8 w a1 len1 cap1 z1) :
    Calls Try.prog 5 #[.slice a len cap, .slice a1 len1 cap1] w fun e w' => e = .returned (.bool true) ∧ Below w.heap.size w w' := by
  obtain ⟨i0, hi0, hz0, hz1, hz2⟩ := info_parts Try.info_int
  have H := Lib.hid h; clear h
  by_cases hl : 1048576 < len
  · go_enter Try.func5, Try.ntmps5
    go_wp2_with fail
    go_ret
    exact ⟨rfl, Below.refl _ _⟩
  by_cases hl1 : 1048576 < len1
  · have d1 : decide ((1048576 : Int) < (len1 : Int)) = true := by simp; omega
    go_enter Try.func5, Try.ntmps5
    go_wp2_with fail
    go_ret
    exact ⟨rfl, Below.refl _ _⟩
  have d1 : decide ((1048576 : Int) < (len1 : Int)) = false := by simp; omega
  go_enter Try.func5, Try.ntmps5
  go_wp2_with fail
  refine (drawKeySum _ _ _ _ _ H.out).mono ?_
  rintro e w1 ⟨v, ks, rfl, ho, hkl, hb⟩
  have HO := Lib.hid ho
  have hi := Lib.hid ho.ints
  obtain ⟨g, cp, rfl, hgb, hgs, hcp1, hcp2⟩ := ho.form
  by_cases hk : keyOk ks
  · obtain ⟨s, hs⟩ : ∃ s, ks.sum % 16 = s := ⟨_, rfl⟩
    have HK := Lib.hid (ksV_at hk.1 hk.2 hs)
    have Hk := Lib.hid hk
    have Hs := Lib.hid hs
    have HE : Hid (ksV [] = .tuple #[.int .i64 0, .bool true]) := ksV_at (by simp) (by simp) (by simp)
    have s1 : 0 ≤ s := by omega
    have s2 : s < 16 := by omega
    have c0 : 0 ≤ (len1 : Int) % 16 := by omega
    have c1 : (len1 : Int) % 16 < 16 := by omega
    clear hk hs ho
    go_wp2_with fail
    with_reducible refine (iKeySum_at _ _ _ ks _ _ hi.out (by omega) HK).mono ?_
    rintro e w' ⟨rfl, rfl⟩
    go_wp2_with fail
    with_reducible refine (sKeySum_at _ _ _ ks _ _ hi.out (by omega) HK).mono ?_
    rintro e w' ⟨rfl, rfl⟩
    go_wp2_with fail
    with_reducible refine (iKeySum_at _ _ _ _ _ _ (IntS.lit _ [] #[] _ 0 _ rfl rfl rfl) (by simp) HE).mono ?_
    rintro e w' ⟨rfl, rfl⟩
    have hbx : Below w.heap.size w (w1.alloc (.cells #[] 3)) := hb.alloc hb.size _
    have HOx := Lib.hid (HO.out.alloc (.cells #[] 3))
    generalize w1.alloc (.cells #[] 3) = w2 at hbx HOx ⊢
    have ho3 := OwnI.empty w2 w.heap.size hbx.size
    have hsrc := (HOx.out.alloc (.cells #[] 3)).src
    have H3 := Lib.hid ho3
    have hB3 := Lib.hid (hbx.alloc hbx.size (.cells #[] 3))
    go_wp2_with (at_builtin; refine wpList_append_own _ rfl _ _ 22 rfl w.heap.size 3 i0 (.int .i64 0) 1 8 Try.underlying22 hi0 hz0 hz1 hz2 rfl (by decide) _ 0 [] rfl ho3.1 ⟨g, 0, none⟩ ks.length cp (ks.map (Value.int .i64)) rfl (by simp) hsrc (one_ints ks) ?c3 ?c4 ?c5 ?_)
    case c3 => unfold maxLen; simp; omega
    case c4 => simp; omega
    case c5 => have := hbx.size; simp; omega
    intro v' w3 hown' hgrow hnil
    have hown2 : w3.ownsRow w.heap.size 3 1 v' ((ks : List Int).length + 0) ((ks ++ List.replicate 0 ((len1 : Int) % 16)).map (Value.int .i64)) := by simpa using hown'
    have o4 := Lib.hid (show OwnI w3 w.heap.size v' (ks ++ List.replicate 0 ((len1 : Int) % 16)) from ⟨by simpa using hown', hnil⟩)
    have B4 := Lib.hid (hB3.out.grown hgrow (by have := hbx.size; simp; omega) (fun k e => by cases e; exact hbx.size))
    clear hown' hown2 hgrow hnil hsrc ho3
    go_wp2_with fail
    go_loopw [12, 13] (fun v i wr => ∃ k : Nat, k ≤ 16 ∧ i = .int .i64 k ∧ OwnI wr w.heap.size v (ks ++ List.replicate k ((len1 : Int) % 16)) ∧ Below w.heap.size w wr) (fun _ i _ => 16 - (intOf i).toNat)
    case atStart => exact ⟨0, Nat.zero_le _, rfl, o4.out, B4.out⟩
    case round =>
      obtain ⟨k, hk, rfl, ho5, hb5⟩ := hrel
      have HO5 := Lib.hid ho5
      have hlen5 : (ks ++ List.replicate k ((len1 : Int) % 16)).length = ks.length + k := by simp
      obtain ⟨g5, cp5, hv5, hgb5, hgs5, _, _⟩ := ho5.form
      rw [hlen5] at hv5
      subst hv5
      by_cases hlt : k < 16
      · have ho5' : wr.ownsRow w.heap.size 3 1 (.slice (some ⟨g5, 0, none⟩) (ks.length + k) cp5) (ks.length + k) ((ks ++ List.replicate k ((len1 : Int) % 16)).map (Value.int .i64)) := by
          have := ho5.1; rw [hlen5] at this; exact this
        clear hlen5 ho5
        go_wp2_with (at_builtin; refine wpList_append_own _ rfl _ _ 22 rfl w.heap.size 3 i0 (.int .i64 0) 1 8 Try.underlying22 hi0 hz0 hz1 hz2 rfl (by decide) _ _ _ rfl (ho5'.alloc _) ⟨wr.heap.size, 0, none⟩ 1 1 [.int .i64 ((len1 : Int) % 16)] rfl rfl (cell_one_new _ _ _) (by simp [Value.oneCell']) ?c3 ?c4 ?c5 ?_)
        case c3 => unfold maxLen; omega
        case c4 => omega
        case c5 => have := hb5.size; simp; omega
        intro v6 w6 hown6 hgrow6 hnil6
        have HO6 : Hid (OwnI w6 w.heap.size v6 (ks ++ List.replicate (k + 1) ((len1 : Int) % 16))) := ⟨by rw [List.replicate_succ', ← List.append_assoc]; simpa [Nat.add_assoc] using hown6, hnil6⟩
        have B6 := Lib.hid ((hb5.alloc hb5.size _).grown hgrow6 (by have := hb5.size; simp; omega) (fun k e => by cases e; exact hgb5))
        clear hown6 hgrow6 hnil6 ho5'
        go_wp2_with fail
        go_roundw
        case rel => exact ⟨k + 1, by omega, by go_num, HO6.out, B6.out⟩
        case measure => simp [intOf]; omega
      · obtain rfl : k = 16 := by omega
        clear hlen5 ho5
        have hi5 := Lib.hid HO5.out.ints
        by_cases h40 : 40 < ks.length + 16
        · have h40' : (40 : Int) < (ks.length : Int) + 16 := by omega
          obtain ⟨r, t, hrt⟩ := ksV_form (ks ++ List.replicate 16 ((len1 : Int) % 16))
          have HRT := Lib.hid hrt; clear hrt
          go_wp2_with fail
          with_reducible refine (iKeySum_at _ _ _ _ _ _ hi5.out (by simp; omega) HRT).mono ?_
          rintro e w' ⟨rfl, rfl⟩
          go_wp2_with fail
          go_ret
          exact ⟨rfl, hb5⟩
        · have d4 : decide ((40 : Int) < (ks.length : Int) + 16) = false := by simp; omega
          have HRT : Hid (ksV (ks ++ List.replicate 16 ((len1 : Int) % 16)) = .tuple #[.int .i64 s, .bool true]) := ksV_at (keyOk_rep Hk.out.1 c0 c1 16) (by simp; omega) (by rw [sum_rep]; have := Hs.out; omega)
          go_wp2_with fail
          with_reducible refine (iKeySum_at _ _ _ _ _ _ hi5.out (by simp; omega) HRT).mono ?_
          rintro e w' ⟨rfl, rfl⟩
          go_wp2_with fail
          go_ret
          exact ⟨rfl, hb5⟩
  · have HK := Lib.hid (ksV_no hk)
    clear hk ho
    go_wp2_with fail
    with_reducible refine (iKeySum_at _ _ _ ks _ _ hi.out (by omega) HK).mono ?_
    rintro e w' ⟨rfl, rfl⟩
    go_wp2_with fail
    with_reducible refine (sKeySum_at _ _ _ ks _ _ hi.out (by omega) HK).mono ?_
    rintro e w' ⟨rfl, rfl⟩
    go_wp2_with fail
    go_ret
    exact ⟨rfl, hb⟩

end Go.Proofs.Ytgkndjplpnpikaa
