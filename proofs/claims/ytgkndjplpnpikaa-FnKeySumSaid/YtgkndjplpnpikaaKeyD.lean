/- The drawing of keys: an own slice of few small numbers. -/
import Derived.Test.YtgkndjplpnpikaaInts
import Derived.Deep.Onto
namespace Go.Proofs.Ytgkndjplpnpikaa
open Go.RowKit

/-- a slice of the call's own that is not nil -/
def OwnI (w : World) (base : Nat) (v : Value) (zs : List Int) : Prop :=
  w.ownsRow base 3 1 v zs.length (zs.map (Value.int .i64)) ∧ v ≠ .slice none 0 0

theorem OwnI.ints {w : World} {base : Nat} {v : Value} {zs : List Int} (h : OwnI w base v zs) : IntS w (base ≤ ·) v zs := IntS.of_owns h.1
theorem OwnI.form {w : World} {base : Nat} {v : Value} {zs : List Int} (h : OwnI w base v zs) : ∃ g cap, v = .slice (some ⟨g, 0, none⟩) zs.length cap ∧ base ≤ g ∧ g < w.heap.size ∧ zs.length ≤ cap ∧ cap ≤ maxLen := by
  rcases h.1.2 with ⟨rfl, h0⟩ | ⟨g, cap, cur, rfl, hb, hh, hn, hm, hs, ht⟩
  · exact absurd rfl h.2
  · exact ⟨g, cap, rfl, hb, (Array.getElem?_eq_some_iff.1 hh).1, hn, hm⟩
theorem OwnI.kept {w w' : World} {base : Nat} {v : Value} {zs : List Int} {row : Option Nat} (h : OwnI w base v zs) (hg : w.grownBy w' row) (hr : ∀ k, row = some k → k < base) : OwnI w' base v zs := by
  refine ⟨h.1.kept hg ?_, h.2⟩
  obtain ⟨g, cap, rfl, hb, _⟩ := h.form
  right
  intro e
  have := hr g e.symm
  omega
theorem OwnI.alloc {w : World} {base : Nat} {v : Value} {zs : List Int} (h : OwnI w base v zs) (o : Obj) : OwnI (w.alloc o) base v zs := ⟨h.1.alloc o, h.2⟩
/-- an empty literal -/
theorem OwnI.empty (w : World) (base : Nat) (hb : base ≤ w.heap.size) : OwnI (w.alloc (.cells #[] 3)) base (.slice (some ⟨w.heap.size, 0, none⟩) 0 0) [] :=
  ⟨World.ownsRow_made w #[] 0 hb (Nat.zero_le _) rfl, by simp⟩
/-- behind an append of one number -/
theorem OwnI.push {w w' : World} {base : Nat} {v v' : Value} {zs : List Int} {x : Int} (_ : OwnI w base v zs)
    (ho : w'.ownsRow base 3 1 v' (zs.length + 1) (zs.map (Value.int .i64) ++ [.int .i64 x])) (hn : ¬ v' = .slice none 0 0) : OwnI w' base v' (zs ++ [x]) :=
  ⟨by simpa using ho, hn⟩

def slLen : Value → Nat | .slice _ n _ => n | _ => 0

/-- a step that writes to block g, one that was not there -/
theorem grow_beside {w w2 w3 : World} {B g : Nat} (h : w.grownBy w2 (some B)) (k : w2.grownBy w3 (some g)) (hg : w.heap.size ≤ g) : w.grownBy w3 (some B) :=
  ⟨k.os.trans h.os, k.tape.trans h.tape, k.output.trans h.output, Nat.le_trans h.size k.size, fun j hj hr => by
    rw [k.block j (by have := h.size; omega) (by intro e; cases e; omega), h.block j hj hr]⟩

/-- what the drawing of keys leaves -/
def DrewKeys (w : World) (B : Nat) (a : Option Addr) (len cap : Nat) (zs : List Int) (p : Int) (e : Ending) (w' : World) : Prop :=
  ∃ v ks p', e = .returned v ∧ OwnI w' w.heap.size v ks ∧ ks.length ≤ 41 ∧ p ≤ p' ∧ p' ≤ p + 20 ∧ Rd w' B a len cap zs p' ∧ w.grownBy w' (some B)

set_option maxHeartbeats 1000000 in
theorem sKeys (w : World) (B : Nat) (a : Option Addr) (len cap : Nat) (zs : List Int) (p : Int) (h : Rd w B a len cap zs p) (hp : p < 999000) :
    Calls Try.prog 14 #[.pointer (some ⟨B, 0, none⟩)] w (DrewKeys w B a len cap zs p) := by
  obtain ⟨i0, hi, hz0, hz1, hz2⟩ := info_parts Try.info_int
  have hB := h.lt
  go_enter Try.func14, Try.ntmps14
  go_wp2_with fail
  refine (pick_use _ B a len cap zs p 6 (h.alloc _) (by omega)).mono ?_
  rintro e w1 ⟨n, rfl, hn, r1, g1⟩
  have hn6 : n ≤ 6 := by omega
  have o1 : OwnI w1 w.heap.size (.slice (some ⟨w.heap.size, 0, none⟩) 0 0) [] := (OwnI.empty w _ (Nat.le_refl _)).kept g1 (fun k e => by cases e; exact hB)
  have G1 : w.grownBy w1 (some B) := grow_trans (World.grownBy_alloc _ _ _) g1
  have O1 := Lib.hid o1
  clear hn g1 o1
  go_wp2_with fail
  go_loopw [3, 5] (fun v i wr => ∃ (k : Nat) (ks : List Int), k ≤ n ∧ i = .int .i64 k ∧ ks.length = k ∧ OwnI wr w.heap.size v ks ∧ Rd wr B a len cap zs (p + 1 + k) ∧ w.grownBy wr (some B)) (fun _ i _ => n - (intOf i).toNat)
  case atStart => exact ⟨0, [], Nat.zero_le _, rfl, rfl, O1.out, by simpa using r1, G1⟩
  case round =>
    obtain ⟨k, ks, hk, rfl, hkl, ho, hrd, hg⟩ := hrel
    have HKL := Lib.hid hkl
    have hks : ks.length ≤ 6 := by omega
    clear hkl
    have HO := Lib.hid ho
    obtain ⟨g, cp, rfl, hgb, hgs, hcp1, hcp2⟩ := ho.form
    by_cases hlt : k < n
    · go_wp2_with fail
      refine (pick_use _ B a len cap zs _ 16 hrd (by omega)).mono ?_
      rintro e w2 ⟨m, rfl, hm, r2, g2⟩
      have ho2 := HO.out.kept g2 (fun k e => by cases e; exact hB)
      have HO2 := Lib.hid ho2
      go_wp2_with (at_builtin; refine wpList_append_own _ rfl _ _ 22 rfl w.heap.size 3 i0 (.int .i64 0) 1 8 Try.underlying22 hi hz0 hz1 hz2 rfl (by decide) _ _ _ rfl (ho2.1.alloc _) ⟨w2.heap.size, 0, none⟩ 1 1 [.int .i64 (m : Int)] rfl rfl (cell_one_new _ _ _) (by simp [Value.oneCell']) ?c3 ?c4 ?c5 ?_)
      case c3 => unfold maxLen; omega
      case c4 => omega
      case c5 => have := hg.size; have := g2.size; simp; omega
      intro v' w3 hown' hgrow hnil
      have ho3 := Lib.hid (HO2.out.push hown' hnil)
      have hg3 : w2.grownBy w3 (some g) := grow_trans (World.grownBy_alloc _ _ _) hgrow
      have r3 := r2.kept hg3 (fun k e => by cases e; omega)
      have G3 : w.grownBy w3 (some B) := grow_beside (grow_trans hg g2) hg3 hgb
      clear ho2 hown' hgrow hnil hrd hm r2
      go_wp2_with fail
      go_roundw
      case rel => exact ⟨k + 1, ks ++ [(m : Int)], by omega, by go_num, by simp [HKL.out], ho3.out, (show p + 1 + (k : Int) + 1 = p + 1 + ((k + 1 : Nat) : Int) by omega) ▸ r3, G3⟩
      case measure => simp [intOf]; omega
    · have hkn : (k : Int) ≤ 6 := by omega
      go_wp2_with fail
      refine (pick_use _ B a len cap zs _ 30 hrd (by omega)).mono ?_
      rintro e w2 ⟨m, rfl, hm, r2, g2⟩
      have ho2 := HO.out.kept g2 (fun k e => by cases e; exact hB)
      have G2 : w.grownBy w2 (some B) := grow_trans hg g2
      have HO2 := Lib.hid ho2
      have hgs2 : g < w2.heap.size := Nat.lt_of_lt_of_le hgs g2.size
      by_cases m0 : m = 0
      · subst m0
        go_wp2_with fail
        refine (pick_use _ B a len cap zs _ 2 (r2.alloc _) (by omega)).mono ?_
        rintro e w3 ⟨j, rfl, hj, r3, g3⟩
        obtain ⟨y, _, _, hy3⟩ := two_lit (-1) 16 j (-1) 16 (by omega) (by omega) (by omega) (by omega) (by omega)
        have hy := cell_lit g3 r2.lt j _ hy3
        have hj2 : (j : Int) < 2 := by have := two_lt hy3; omega
        have G3 : w.grownBy w3 (some B) := grow_trans (grow_alloc G2 _) g3
        have ho3 := HO2.out.kept (grow_trans (World.grownBy_alloc _ _ _) g3) (fun k e => by cases e; exact hB)
        have HO3 := Lib.hid ho3
        clear hy3 hj ho2
        go_wp2_with (at_builtin; refine wpList_append_own _ rfl _ _ 22 rfl w.heap.size 3 i0 (.int .i64 0) 1 8 Try.underlying22 hi hz0 hz1 hz2 rfl (by decide) _ _ _ rfl (ho3.1.alloc _) ⟨w3.heap.size, 0, none⟩ 1 1 [.int .i64 y] rfl rfl (cell_one_new _ _ _) (by simp [Value.oneCell']) ?c3 ?c4 ?c5 ?_)
        case c3 => unfold maxLen; omega
        case c4 => omega
        case c5 => have := G3.size; simp; omega
        intro v' w4 hown' hgrow hnil
        have ho4 := Lib.hid (HO3.out.push hown' hnil)
        have hg4 : w3.grownBy w4 (some g) := grow_trans (World.grownBy_alloc _ _ _) hgrow
        have r4 := Lib.hid (r3.kept hg4 (fun k e => by cases e; omega))
        have G4 := Lib.hid (grow_beside G3 hg4 hgb)
        clear ho3 hown' hgrow hnil r3
        go_wp2_with fail
        go_ret
        exact ⟨v', ks ++ [y], _, rfl, ho4.out, by simp; omega, by omega, by omega, r4.out, G4.out⟩
      by_cases m1 : m = 1
      · subst m1
        have HK6 := Lib.hid hks
        go_wp2_with fail
        go_loopw [3] (fun v wr2 => ∃ ks2 : List Int, ks2.length ≤ 41 ∧ OwnI wr2 w.heap.size v ks2 ∧ Rd wr2 B a len cap zs (p + 1 + k + 1) ∧ w.grownBy wr2 (some B)) (fun v _ => 41 - slLen v)
        case atStart => exact ⟨ks, by omega, HO2.out, r2, G2⟩
        case round =>
          obtain ⟨ks2, hl2, ho5, hr5, hg5⟩ := hrel
          have HO5 := Lib.hid ho5
          obtain ⟨g5, cp5, rfl, hgb5, hgs5, _, _⟩ := ho5.form
          by_cases hlt2 : ks2.length ≤ 40
          · go_wp2_with (at_builtin; refine wpList_append_own _ rfl _ _ 22 rfl w.heap.size 3 i0 (.int .i64 0) 1 8 Try.underlying22 hi hz0 hz1 hz2 rfl (by decide) _ _ _ rfl (ho5.1.alloc _) ⟨wr.heap.size, 0, none⟩ 1 1 [.int .i64 3] rfl rfl (cell_one_new _ _ _) (by simp [Value.oneCell']) ?c3 ?c4 ?c5 ?_)
            case c3 => unfold maxLen; omega
            case c4 => omega
            case c5 => have := hg5.size; simp; omega
            intro v' w4 hown' hgrow hnil
            have ho6 := HO5.out.push hown' hnil
            obtain ⟨g6, cp6, hv6, _, _, _, _⟩ := ho6.form
            have HO6 := Lib.hid ho6
            have hg6 : wr.grownBy w4 (some g5) := grow_trans (World.grownBy_alloc _ _ _) hgrow
            have r6 := Lib.hid (hr5.kept hg6 (fun k e => by cases e; omega))
            have G6 := Lib.hid (grow_beside hg5 hg6 hgb5)
            have hl6 : (ks2 ++ [(3 : Int)]).length = ks2.length + 1 := by simp
            rw [hl6] at hv6
            subst hv6
            clear ho5 hown' hgrow hnil hr5 ho6 hl6
            go_wp2_with fail
            go_roundw
            case rel => exact ⟨ks2 ++ [3], by simp; omega, HO6.out, r6.out, G6.out⟩
            case measure => simp [slLen]; omega
          · have R5 := Lib.hid hr5
            go_wp2_with fail
            go_ret
            exact ⟨_, ks2, _, rfl, HO5.out, by omega, by omega, by omega, R5.out, hg5⟩
      · have c0 : ((m : Int) == 0) = false := by simp; omega
        have c1 : ((m : Int) == 1) = false := by simp; omega
        have R2 := Lib.hid r2
        go_wp2_with fail
        go_ret
        exact ⟨_, ks, _, rfl, HO2.out, by omega, by omega, by omega, R2.out, G2⟩

/-- what the drawing of keys gives to a law -/
def DrawnKeys (w : World) (e : Ending) (w' : World) : Prop :=
  ∃ v ks, e = .returned v ∧ OwnI w' w.heap.size v ks ∧ ks.length ≤ 41 ∧ Below w.heap.size w w'

set_option maxHeartbeats 400000 in
theorem drawKeySum (w : World) (a : Option Addr) (len cap : Nat) (zs : List Int) (h : IsRow .u8 w a len cap zs) :
    Calls Try.prog 11 #[.slice a len cap] w (DrawnKeys w) := by
  have H := Lib.hid h; clear h
  go_enter Try.func11, Try.ntmps11
  go_wp2_with fail
  refine (open_any _ _ _ _ _ H.out).mono ?_
  rintro e w1 ⟨B, a1, l1, c1, z1, hB, rfl, r1, b1⟩
  go_wp2_with fail
  refine (sKeys _ B _ _ _ _ _ r1 (by omega)).mono ?_
  rintro e w2 ⟨v, ks, p', rfl, ho, hl, _, _, _, g2⟩
  have HO := Lib.hid ho
  obtain ⟨g, cp, rfl, hgb, hgs, _, _⟩ := ho.form
  clear ho
  go_wp2_with fail
  go_ret
  exact ⟨_, ks, rfl, ⟨HO.out.1.mono b1.size, HO.out.2⟩, hl, below_grow b1 g2 hB⟩

end Go.Proofs.Ytgkndjplpnpikaa
