/- The drawing functions of the roundings: they return numbers of a range and write nothing that was there. -/
import Derived.Test.YtigdgcpjkeaooaaDraw2
import Derived.Test.YtigdgcpjkeaooaaRound2
import Derived.Deep.RegionWith
namespace Go.Proofs.Ytigdgcpjkeaooaa
open Go.RowKit

set_option maxHeartbeats 400000 in
theorem base_any (w : World) (B : Nat) (a : Option Addr) (len cap : Nat) (zs : List Int) (p : Int) (h : Rd w B a len cap zs p) (hp : p < 999000) :
    Calls Try.prog 36 #[.pointer (some ⟨B, 0, none⟩)] w (DrewInt 1 21 2 w B a len cap zs p) := by
  go_enter Try.func36, Try.ntmps36
  go_wp2_with fail
  refine (pick_use w B a len cap zs p 24 h (by omega)).mono ?_
  rintro e w1 ⟨m, rfl, hm, r1, g1⟩
  by_cases m0 : m = 0
  · subst m0
    go_wp2_with fail
    refine (pick_use _ B a len cap zs (p + 1) 3 (r1.alloc _) (by omega)).mono ?_
    rintro e w2 ⟨k, rfl, hk, r2, g2⟩
    have hk4 : k < 3 := by omega
    obtain ⟨y, hy1, hy2, hy3⟩ : ∃ y : Int, 1 ≤ y ∧ y ≤ 21 ∧ w2.cell? ⟨w1.heap.size, k, none⟩ = some (.int .i64 y) := by
      have : k = 0 ∨ k = 1 ∨ k = 2 := by omega
      rcases this with rfl | rfl | rfl
      · exact ⟨1, by omega, by omega, cell_lit g2 r1.lt _ _ rfl⟩
      · exact ⟨21, by omega, by omega, cell_lit g2 r1.lt _ _ rfl⟩
      · exact ⟨20, by omega, by omega, cell_lit g2 r1.lt _ _ rfl⟩
    have R2 := Lib.hid r2; clear r2 hm hk
    go_wp2
    go_ret
    exact ⟨y, p + 1 + 1, rfl, hy1, hy2, by omega, by omega, R2.out, grow_trans (grow_alloc g1 _) g2⟩
  · have c0 : ((m : Int) == 0) = false := by simp; omega
    go_wp2_with fail
    refine (pick_use _ B a len cap zs (p + 1) 9 r1 (by omega)).mono ?_
    rintro e w2 ⟨k, rfl, hk, r2, g2⟩
    have hk4 : k < 9 := by omega
    clear hm hk
    go_wp2
    go_ret
    exact ⟨_, p + 1 + 1, rfl, by omega, by omega, by omega, by omega, r2, grow_trans g1 g2⟩

/-- two numbers drawn -/
def Drew2 (w : World) (e : Ending) (w' : World) : Prop :=
  ∃ x b, e = .returned (.tuple #[.int .i64 x, .int .i64 b]) ∧ -1 ≤ x ∧ x ≤ 10001 ∧ 1 ≤ b ∧ b ≤ 21 ∧ Below w.heap.size w w'

/-- three numbers drawn -/
def Drew3 (w : World) (e : Ending) (w' : World) : Prop :=
  ∃ x b l, e = .returned (.tuple #[.int .i64 x, .int .i64 b, .int .i64 l]) ∧ -1 ≤ x ∧ x ≤ 10001 ∧ 1 ≤ b ∧ b ≤ 21 ∧ -1 ≤ l ∧ l ≤ 21 ∧ Below w.heap.size w w'

end Go.Proofs.Ytigdgcpjkeaooaa
