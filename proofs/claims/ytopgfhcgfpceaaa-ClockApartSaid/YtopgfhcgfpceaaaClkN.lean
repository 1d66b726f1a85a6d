/- What the laws' walks read of the lists that a clock hands out; two alike expiries are alike. -/
import Derived.Test.YtopgfhcgfpceaaaClkK
import Derived.Test.YtopgfhcgfpceaaaClkL
import Derived.Laws.StructEq
import Derived.Deep.MidRow
namespace Go.Proofs.Ytopgfhcgfpceaaa
open Go.RowKit

theorem exp_cells {w : World} {B n cap : Nat} {a : Option Addr} {xs : List (Int × Nat)} (hO : w.ownsRow B 41 2 (.slice a n cap) n (xs.flatMap encE)) (k : Nat) (x : Int × Nat) (hk : xs[k]? = some x) (hn : xs.length = n) :
    ∃ g, a = some ⟨g, 0, none⟩ ∧ g < w.heap.size ∧ w.cell? ⟨g, k * 2, none⟩ = some (.int .u64 x.1) ∧ w.cell? ⟨g, k * 2 + 1, none⟩ = some (.int .i64 (x.2 : Nat)) := by
  have hlt := (List.getElem?_eq_some_iff.1 hk).1
  rcases hO.2 with ⟨h1, h2⟩ | ⟨g, cap', cur, h1, _⟩
  · omega
  · injection h1 with e1 e2 e3
    subst e1 e3
    have hc := hO.cells (g := g) rfl
    refine ⟨g, rfl, (hO.lt g rfl).2, ?_, ?_⟩
    · have := hc (k * 2) (.int .u64 x.1) (by rw [show k * 2 = k * 2 + 0 by omega, flat_get encE_length _ k 0 _ hk (by omega)]; rfl)
      rwa [Addr.add_mid, Nat.zero_add] at this
    · have := hc (k * 2 + 1) (.int .i64 (x.2 : Nat)) (by rw [flat_get encE_length _ k 1 _ hk (by omega)]; rfl)
      rwa [Addr.add_mid, Nat.zero_add] at this

theorem int_cells {w : World} {B n cap : Nat} {a : Option Addr} {xs : List Nat} (hO : w.ownsRow B 3 1 (.slice a n cap) n (xs.map fun i => .int .i64 (i : Nat))) (k : Nat) (x : Nat) (hk : xs[k]? = some x) (hn : xs.length = n) :
    ∃ g, a = some ⟨g, 0, none⟩ ∧ g < w.heap.size ∧ w.cell? ⟨g, k, none⟩ = some (.int .i64 (x : Nat)) := by
  have hlt := (List.getElem?_eq_some_iff.1 hk).1
  rcases hO.2 with ⟨h1, h2⟩ | ⟨g, cap', cur, h1, _⟩
  · omega
  · injection h1 with e1 e2 e3
    subst e1 e3
    have hc := hO.cells (g := g) rfl
    refine ⟨g, rfl, (hO.lt g rfl).2, ?_⟩
    have := hc k (.int .i64 (x : Nat)) (by rw [List.getElem?_map, hk]; rfl)
    rwa [Addr.add_mid, Nat.zero_add] at this

theorem run_neq_exp (w : World) (a b : Int) : (binOp .neq 41 (.agg #[.int .u64 a, .int .i64 b]) (.agg #[.int .u64 a, .int .i64 b])).run Try.prog w = .ok (.bool false) w := by
  obtain ⟨f, g, e, n1, n2, t1, t2, o1, o2⟩ : ∃ f g, (Try.prog.fieldsOf 41).toList = [f, g] ∧ f.name = "In" ∧ g.name = "Alarm" ∧ f.type = 39 ∧ g.type = 3 ∧ f.offset = 0 ∧ g.offset = 1 := ⟨(Try.prog.fieldsOf 41)[0]!, (Try.prog.fieldsOf 41)[1]!, by kernel_rfl, by kernel_rfl, by kernel_rfl, by kernel_rfl, by kernel_rfl, by kernel_rfl, by kernel_rfl⟩
  have p1 : (part 39 #[.int .u64 a, .int .i64 b] 0).run Try.prog w = .ok (.int .u64 a) w := by kernel_rfl
  have p2 : (part 3 #[.int .u64 a, .int .i64 b] 1).run Try.prog w = .ok (.int .i64 b) w := by kernel_rfl
  have h1 := run_equalIn_int (P := Try.prog) w 9998 39 .u64 .u64 a a (by kernel_rfl)
  have h2 := run_equalIn_int (P := Try.prog) w 9998 3 .i64 .i64 b b (by kernel_rfl)
  rw [run_neq_struct, run_equalIn_struct (P := Try.prog) w 9999 _ _ _ (by kernel_rfl) (by kernel_rfl), e]
  simp [Op.eqFields, p1, p2, h1, h2, n1, n2, t1, t2, o1, o2]

end Go.Proofs.Ytopgfhcgfpceaaa
