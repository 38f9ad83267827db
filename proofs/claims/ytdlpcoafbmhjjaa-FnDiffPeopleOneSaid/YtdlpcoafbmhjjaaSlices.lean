/- Parts of slices, appends, copies of tables. -/
import Derived.Test.YtdlpcoafbmhjjaaOwnT2
import Derived.Deep.RegionLaw
namespace Go.Proofs.Ytdlpcoafbmhjjaa
open Go.RowKit

/-- behind an append of a list -/
theorem OwnI.join {w w' : World} {base : Nat} {v v' : Value} {zs ys : List Int} {m : Nat} (hm : m = ys.length) (_ : OwnI w base v zs)
    (ho : w'.ownsRow base 3 1 v' (zs.length + m) (zs.map (Value.int .i64) ++ ys.map (Value.int .i64))) (hn : ¬ v' = .slice none 0 0) : OwnI w' base v' (zs ++ ys) :=
  ⟨by subst hm; simpa using ho, hn⟩
theorem OwnI.src {w : World} {base g n cap : Nat} {zs : List Int} (h : OwnI w base (.slice (some ⟨g, 0, none⟩) n cap) zs) :
    ∀ j u, (zs.map (Value.int .i64))[j]? = some u → w.cell? ((⟨g, 0, none⟩ : Addr).add j) = some u := h.1.cells rfl
theorem one_ints (zs : List Int) : ∀ u ∈ zs.map (Value.int .i64), u.oneCell' = true := by
  intro u hu
  obtain ⟨z, _, rfl⟩ := List.mem_map.1 hu
  rfl

/-- an append onto an own slice, as a step of a region that draws its order -/
theorem step_append_own {P : Program} (w : World) {ops : Array Oper} {o : Oper} {a : Act} {K : Act → World → Prop} {Q : Exit → Act → World → Prop} {E : Prop} (hgd : o.guard = none) (s x : Operand) (t : TypeId)
    (ho : o.op = .call { callee := .builtin .append, args := #[s, x], argTypes := #[t, t] })
    (base : Nat) (e : TypeId) (i : TypeInfo) (z : Value) (size bytes : Nat) (ht : P.underlying t = some (.slice e)) (hi : P.info? e = some i) (hz : i.zero = some z)
    (hsize : i.size = size) (hby : i.bytes = bytes) (hzs : z.cells.size = size) (hsz : 0 < size)
    (v : Value) (n : Nat) (xs : List Value) (hs : a.eval s = v) (hown : w.ownsRow base e size v n xs)
    (ad : Addr) (m c : Nat) (news : List Value) (hx : a.eval x = .slice (some ad) m c) (hl : news.length = m * size) (hnews : ∀ j u, news[j]? = some u → w.cell? (ad.add j) = some u) (h1 : ∀ u ∈ news, u.oneCell' = true)
    (h63 : n + m ≤ maxLen) (hbytes : (n + m) * bytes ≤ 140737488355328) (hbase : base ≤ w.heap.size)
    (h : ∀ v' w', w'.ownsRow base e size v' (n + m) (xs ++ news) → w.grownBy w' v.ownBlock → (v' = .slice none 0 0 ↔ v = .slice none 0 0 ∧ m = 0) → K (a.put o.dst v') w') :
    if Region.wanted o (yielded ops a.tmps) = true then Oper.wp P o a w K Q else E := by
  have hw : Region.wanted o (yielded ops a.tmps) = true := by simp [Region.wanted, hgd]
  rw [if_pos hw]
  exact wp_append_own w s x t ho base e i z size bytes ht hi hz hsize hby hzs hsz v n xs hs hown ad m c news hx hl hnews h1 h63 hbytes hbase h

theorem IntS.take {w : World} {P : Nat → Prop} {g cap : Nat} {zs : List Int} {n : Nat} (h : IntS w P (.slice (some ⟨g, 0, none⟩) n cap) zs) (k : Nat) (hk : k ≤ zs.length) :
    IntS w P (.slice (some ⟨g, 0, none⟩) k cap) (zs.take k) := by
  obtain ⟨a, c, hv, hl, hr⟩ := h
  cases hv
  have hl2 : (zs.take k).length = k := by simp; omega
  refine ⟨_, cap, by rw [hl2], by omega, fun i hi => ?_⟩
  obtain ⟨b, off, hb, hp, hc⟩ := hr i (by omega)
  exact ⟨b, off, hb, hp, by rw [hc, List.getElem?_take, if_pos (by omega)]⟩
theorem IntS.drop {w : World} {P : Nat → Prop} {g cap : Nat} {zs : List Int} {n : Nat} (h : IntS w P (.slice (some ⟨g, 0, none⟩) n cap) zs) (k : Nat) (hk : k ≤ zs.length) :
    IntS w P (.slice (some ⟨g, k, none⟩) (n - k) (cap - k)) (zs.drop k) := by
  obtain ⟨a, c, hv, hl, hr⟩ := h
  cases hv
  refine ⟨_, cap - k, by rw [List.length_drop], by simp; omega, fun i hi => ?_⟩
  rw [List.length_drop] at hi
  obtain ⟨b, off, hb, hp, hc⟩ := hr (k + i) (by omega)
  cases hb
  exact ⟨g, k, rfl, hp, by rw [List.getElem?_drop, ← hc]; congr 2; omega⟩
theorem IntS.srcAt {w : World} {P : Nat → Prop} {g o n cap : Nat} {zs : List Int} (h : IntS w P (.slice (some ⟨g, o, none⟩) n cap) zs) :
    ∀ j u, (zs.map (Value.int .i64))[j]? = some u → w.cell? ((⟨g, o, none⟩ : Addr).add j) = some u := by
  obtain ⟨a, c, hv, hl, hr⟩ := h
  cases hv
  intro j u hj
  rw [List.getElem?_map] at hj
  obtain ⟨x, hx, rfl⟩ := Option.map_eq_some_iff.1 hj
  obtain ⟨hlt, hx2⟩ := List.getElem?_eq_some_iff.1 hx
  obtain ⟨b, off, hb, hp, hc⟩ := hr j hlt
  cases hb
  rw [Go.WideShapes.add_plain, hc, hx]; rfl

theorem own_block {w : World} {base : Nat} {v : Value} {zs : List Int} (h : OwnI w base v zs) : ∀ j, v.ownBlock = some j → base ≤ j := by
  intro j e
  obtain ⟨g, c, rfl, hb, _⟩ := h.form
  cases e; exact hb


theorem OwnI.nilBlk {w : World} {base : Nat} {v : Value} {zs : List Int} (h : OwnI w base v zs) : ∀ j, v.ownBlock = some j → base ≤ j ∧ j < w.heap.size := fun j e => h.1.lt j e

/-- the address of a slice that is not empty -/
theorem IntS.addr {w : World} {P : Nat → Prop} {a : Option Addr} {n cap : Nat} {zs : List Int} (h : IntS w P (.slice a n cap) zs) (hn : 1 ≤ zs.length) : ∃ g o, a = some ⟨g, o, none⟩ ∧ n = zs.length := by
  obtain ⟨a', c, hv, hl, hr⟩ := h
  cases hv
  obtain ⟨b, off, hb, _⟩ := hr 0 (by omega)
  exact ⟨b, off, hb, rfl⟩

end Go.Proofs.Ytdlpcoafbmhjjaa
