/- Parts of slices, appends, copies of tables. -/
import Derived.Test.YtihkahojicafiaaOwnT2
import Derived.Deep.RegionLaw
namespace Go.Proofs.Ytihkahojicafiaa
open Go.RowKit

/-- behind an append of a list -/
theorem OwnI.join {w w' : World} {base : Nat} {v v' : Value} {zs ys : List Int} {m : Nat} (hm : m = ys.length) (_ : OwnI w base v zs)
    (ho : w'.ownsRow base 3 1 v' (zs.length + m) (zs.map (Value.int .i64) ++ ys.map (Value.int .i64))) (hn : ¬ v' = .slice none 0 0) : OwnI w' base v' (zs ++ ys) :=
  ⟨by subst hm; simpa using ho, hn⟩
theorem OwnI.src {w : World} {base g n cap : Nat} {zs : List Int} (h : OwnI w base (.slice (some ⟨g, 0, none⟩) n cap) zs) :
    ∀ j u, (zs.map (Value.int .i64))[j]? = some u → w.cell? ((⟨g, 0, none⟩ : Addr).add j) = some u := h.1.cells rfl
theorem one_ints (zs : List Int) : ∀ u ∈ zs.map (Value.int .i64), u.oneCell' = true := by
  intro u hu
  obtain ⟨z, _, rfl⟩ := List.mem_map.1 hu
  rfl

/-- an append onto an own slice, as a step of a region that draws its order -/
theorem step_append_own {P : Program} (w : World) {ops : Array Oper} {o : Oper} {a : Act} {K : Act → World → Prop} {Q : Exit → Act → World → Prop} {E : Prop} (hgd : o.guard = none) (s x : Operand) (t : TypeId)
    (ho : o.op = .call { callee := .builtin .append, args := #[s, x], argTypes := #[t, t] })
    (base : Nat) (e : TypeId) (i : TypeInfo) (z : Value) (size bytes : Nat) (ht : P.underlying t = some (.slice e)) (hi : P.info? e = some i) (hz : i.zero = some z)
    (hsize : i.size = size) (hby : i.bytes = bytes) (hzs : z.cells.size = size) (hsz : 0 < size)
    (v : Value) (n : Nat) (xs : List Value) (hs : a.eval s = v) (hown : w.ownsRow base e size v n xs)
    (ad : Addr) (m c : Nat) (news : List Value) (hx : a.eval x = .slice (some ad) m c) (hl : news.length = m * size) (hnews : ∀ j u, news[j]? = some u → w.cell? (ad.add j) = some u) (h1 : ∀ u ∈ news, u.oneCell' = true)
    (h63 : n + m ≤ maxLen) (hbytes : (n + m) * bytes ≤ 140737488355328) (hbase : base ≤ w.heap.size)
    (h : ∀ v' w', w'.ownsRow base e size v' (n + m) (xs ++ news) → w.grownBy w' v.ownBlock → (v' = .slice none 0 0 ↔ v = .slice none 0 0 ∧ m = 0) → K (a.put o.dst v') w') :
    if Region.wanted o (yielded ops a.tmps) = true then Oper.wp P o a w K Q else E := by
  have hw : Region.wanted o (yielded ops a.tmps) = true := by simp [Region.wanted, hgd]
  rw [if_pos hw]
  exact wp_append_own w s x t ho base e i z size bytes ht hi hz hsize hby hzs hsz v n xs hs hown ad m c news hx hl hnews h1 h63 hbytes hbase h

theorem IntS.take {w : World} {P : Nat → Prop} {g cap : Nat} {zs : List Int} {n : Nat} (h : IntS w P (.slice (some ⟨g, 0, none⟩) n cap) zs) (k : Nat) (hk : k ≤ zs.length) :
    IntS w P (.slice (some ⟨g, 0, none⟩) k cap) (zs.take k) := by
  obtain ⟨a, c, hv, hl, hr⟩ := h
  cases hv
  have hl2 : (zs.take k).length = k := by simp; omega
  refine ⟨_, cap, by rw [hl2], by omega, fun i hi => ?_⟩
  obtain ⟨b, off, hb, hp, hc⟩ := hr i (by omega)
  exact ⟨b, off, hb, hp, by rw [hc, List.getElem?_take, if_pos (by omega)]⟩
theorem IntS.drop {w : World} {P : Nat → Prop} {g cap : Nat} {zs : List Int} {n : Nat} (h : IntS w P (.slice (some ⟨g, 0, none⟩) n cap) zs) (k : Nat) (hk : k ≤ zs.length) :
    IntS w P (.slice (some ⟨g, k, none⟩) (n - k) (cap - k)) (zs.drop k) := by
  obtain ⟨a, c, hv, hl, hr⟩ := h
  cases hv
  refine ⟨_, cap - k, by rw [List.length_drop], by simp; omega, fun i hi => ?_⟩
  rw [List.length_drop] at hi
  obtain ⟨b, off, hb, hp, hc⟩ := hr (k + i) (by omega)
  cases hb
  exact ⟨g, k, rfl, hp, by rw [List.getElem?_drop, ← hc]; congr 2; omega⟩
theorem IntS.srcAt {w : World} {P : Nat → Prop} {g o n cap : Nat} {zs : List Int} (h : IntS w P (.slice (some ⟨g, o, none⟩) n cap) zs) :
    ∀ j u, (zs.map (Value.int .i64))[j]? = some u → w.cell? ((⟨g, o, none⟩ : Addr).add j) = some u := by
  obtain ⟨a, c, hv, hl, hr⟩ := h
  cases hv
  intro j u hj
  rw [List.getElem?_map] at hj
  obtain ⟨x, hx, rfl⟩ := Option.map_eq_some_iff.1 hj
  obtain ⟨hlt, hx2⟩ := List.getElem?_eq_some_iff.1 hx
  obtain ⟨b, off, hb, hp, hc⟩ := hr j hlt
  cases hb
  rw [Go.WideShapes.add_plain, hc, hx]; rfl

theorem own_block {w : World} {base : Nat} {v : Value} {zs : List Int} (h : OwnI w base v zs) : ∀ j, v.ownBlock = some j → base ≤ j := by
  intro j e
  obtain ⟨g, c, rfl, hb, _⟩ := h.form
  cases e; exact hb


theorem OwnI.nilBlk {w : World} {base : Nat} {v : Value} {zs : List Int} (h : OwnI w base v zs) : ∀ j, v.ownBlock = some j → base ≤ j ∧ j < w.heap.size := fun j e => h.1.lt j e

/-- the address of a slice that is not empty -/
theorem IntS.addr {w : World} {P : Nat → Prop} {a : Option Addr} {n cap : Nat} {zs : List Int} (h : IntS w P (.slice a n cap) zs) (hn : 1 ≤ zs.length) : ∃ g o, a = some ⟨g, o, none⟩ ∧ n = zs.length := by
  obtain ⟨a', c, hv, hl, hr⟩ := h
  cases hv
  obtain ⟨b, off, hb, _⟩ := hr 0 (by omega)
  exact ⟨b, off, hb, rfl⟩

set_option maxHeartbeats 400000 in
theorem lCopyRows (w : World) (P : Nat → Prop) (v : Value) (t : List (List Int)) (h : IntSS w P v t) (hl : t.length ≤ 1000) (hl2 : ∀ j, j < t.length → 1 ≤ (t[j]?.getD []).length ∧ (t[j]?.getD []).length ≤ 1000) :
    Calls Try.prog 28 #[v] w (CopiedT w t) := by
  obtain ⟨i0, hi0, hz0, hz1, hz2⟩ := info_parts Try.info_int
  obtain ⟨j0, hj0, hy0, hy1, hy2⟩ := info_parts Try.info_row
  have HH := Lib.hid h
  obtain ⟨a, cap, rfl, hcp, hr⟩ := h
  have HL2 := Lib.hid hl2; clear hl2 hr
  go_enter Try.func28, Try.ntmps28
  go_wp2_with fail
  go_loopw [3, 4] (fun v i wr => ∃ (k : Nat) (us : List Value), k ≤ t.length ∧ i = .int .i64 k ∧ OwnU wr w.heap.size v (t.take k) us ∧ Below w.heap.size w wr) (fun _ i _ => t.length - (intOf i).toNat)
  case atStart => exact ⟨0, [], Nat.zero_le _, rfl, OwnU.empty w _ (Nat.le_refl _), (Below.refl _ _).alloc (Nat.le_refl _) _⟩
  case round =>
    obtain ⟨k, us, hk, rfl, hp, hbel⟩ := hrel
    have HP := Lib.hid hp
    obtain ⟨g, cp, rfl, hgb, hgs, hcp1, hcp2⟩ := hp.form
    have htk : (t.take k).length = k := by simp; omega
    rw [htk] at hcp1 HP ⊢
    by_cases hlt : k < t.length
    · obtain ⟨r, hrr⟩ : ∃ r, t[k]?.getD [] = r := ⟨_, rfl⟩
      have hi0' := HH.out.below hbel
      obtain ⟨a', cap', hv', _, hrows⟩ := hi0'
      obtain ⟨rfl, _, rfl⟩ : a = a' ∧ True ∧ cap = cap' := by cases hv'; exact ⟨rfl, trivial, rfl⟩
      obtain ⟨b, off, ai, ci, rfl, _, hc, hi⟩ := hrows.row hlt r hrr
      have hrl := HL2.out k hlt
      rw [hrr] at hrl
      obtain ⟨b2, o2, rfl, _⟩ := hi.addr hrl.1
      obtain ⟨hrl1, hrl2⟩ := hrl
      have HI := Lib.hid (hi.alloc (.cells #[] 3))
      have HSN : Hid (t.take (k + 1) = t.take k ++ [r]) := by unfold Hid; rw [List.take_succ_eq_append_getElem hlt]; rw [List.getElem?_eq_getElem hlt] at hrr; simp at hrr; rw [hrr]
      have HTK := Lib.hid htk
      have hcA := fun o => (World.grownBy_alloc wr o none).cell hc (by simp)
      clear hi hrr hrows hv' hp htk
      go_wp2_with (at_builtin; refine wpList_append_own_at _ rfl _ _ 30 rfl wr.heap.size 3 i0 (.int .i64 0) 1 8 Try.underlying30 hi0 hz0 hz1 hz2 rfl (by decide) _ _ _ rfl (OwnI.empty wr wr.heap.size (Nat.le_refl _)).1 ⟨b2, o2, none⟩ r.length ci (r.map (Value.int .i64)) rfl ?c1 HI.out.srcAt (one_ints _) ?c3 ?c4 ?c5 ?_)
      case c3 => unfold maxLen; omega
      case c4 => omega
      intro v1 w2 hown hgrow hnil hat
      have hv1 : OwnI w2 wr.heap.size v1 r := ⟨by simpa using hown, by simpa using hnil⟩
      have g2 : wr.grownBy w2 (some wr.heap.size) := grow_trans (World.grownBy_alloc _ _ _) hgrow
      have HP2 := Lib.hid (HP.out.keptB g2 (fun q e hh => by cases e; have := (HP.out.blk hh).2; omega))
      have B2 := Lib.hid (hbel.grown g2 hbel.size (fun q e => by cases e; exact hbel.size))
      have HV1 := Lib.hid hv1
      have hs2 := g2.size
      obtain ⟨g1, cp1, rfl, hg1, _⟩ := hv1.form
      have hF : Hid (∀ q, (Value.slice (some ⟨g1, 0, none⟩) r.length cp1).ownBlock = some q → ¬ blksU (.slice (some ⟨g, 0, none⟩) k cp) us q) := by
        intro q e hh
        obtain rfl : g1 = q := by simpa [Value.ownBlock] using e
        have := (HP.out.blk hh).2
        omega
      have HOU : Hid (w2.ownsRow w.heap.size 30 1 (.slice (some ⟨g, 0, none⟩) k cp) k us) := by have := HP2.out.outer; rw [HTK.out] at this; exact this
      clear hown hgrow hnil hat hv1 g2
      go_wp2_with (at_builtin; refine wpList_append_own_at _ rfl _ _ 23 rfl w.heap.size 30 j0 (.slice none 0 0) 1 24 Try.underlying23 hj0 hy0 hy1 hy2 rfl (by decide) _ _ _ rfl (HOU.out.alloc _) ⟨w2.heap.size, 0, none⟩ 1 1 [.slice (some ⟨g1, 0, none⟩) r.length cp1] rfl rfl (cell_one_new _ _ _) (by simp [Value.oneCell']) ?d3 ?d4 ?d5 ?_)
      case d3 => unfold maxLen; omega
      case d4 => omega
      case d5 => have := hbel.size; simp; omega
      intro v3 w3 hown hgrow hnil hat
      have ho3 := (HP2.out.alloc (.cells #[.slice (some ⟨g1, 0, none⟩) r.length cp1] 30)).push ((HV1.out.mono hbel.size).alloc _) hF.out (by rw [HTK.out]; exact hown) hgrow (by simpa using hnil) (by rcases hat with e | e; exact .inl e; exact .inr ⟨_, e, by simp⟩)
      rw [← HSN.out] at ho3
      have HO3 := Lib.hid ho3
      have B3 := Lib.hid ((B2.out.alloc (by have := hbel.size; omega) (.cells #[.slice (some ⟨g1, 0, none⟩) r.length cp1] 30)).grown hgrow (by have := hbel.size; simp; omega) (fun q e => by cases e; exact hgb))
      obtain ⟨g4, cp4, hv4, _⟩ := ho3.form
      rw [show (t.take (k + 1)).length = k + 1 by simp; omega] at hv4
      clear hown hgrow hnil hat ho3
      subst hv4
      go_wp2_with fail
      go_roundw
      case rel => exact ⟨k + 1, _, by omega, by go_num, HO3.out, B3.out⟩
      case measure => simp [intOf]; omega
    · have HT : Hid (t.take k = t) := List.take_of_length_le (by omega)
      go_wp2_with fail
      go_ret
      exact ⟨_, us, rfl, by have := HP.out; rw [HT.out] at this; exact this, hbel⟩

end Go.Proofs.Ytihkahojicafiaa
