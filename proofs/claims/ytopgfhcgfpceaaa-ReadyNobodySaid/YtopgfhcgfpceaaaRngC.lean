/- The walk of package ring: space, where nothing is to be grown. -/
import Derived.Test.YtopgfhcgfpceaaaRngB
namespace Go.Proofs.Ytopgfhcgfpceaaa
open Go.RowKit

set_option maxRecDepth 20000 in
theorem rg_space_full (w : World) (p q : Nat) (r : Rg) (h : RgAt w p q r) (hn : r.room ≤ r.n) : Calls Try.prog 198 #[.pointer (some ⟨p, 0, none⟩)] w fun e w' => e = .returned (.int .i64 121) ∧ ∃ n, w' = w.drewN n := by
  obtain ⟨⟨a, cap, tail, hx⟩, hw⟩ := h
  have c1 : w.cell? ⟨p, 1, none⟩ = some (.int .i64 r.room) := hx.1.cell rfl
  have c4 : w.cell? ⟨p, 4, none⟩ = some (.int .i64 r.n) := hx.1.cell rfl
  have hle : (r.room : Int) ≤ r.n := by omega
  clear hx hw
  go_enter Try.func198, Try.ntmps198
  go_wp2
  go_quiet (fail)
  go_wp2
  go_ret
  exact ⟨rfl, _, rfl⟩

set_option maxRecDepth 20000 in
theorem rg_space_some (w : World) (p q : Nat) (r : Rg) (h : RgAt w p q r) (hn : r.n < r.room) (hl : r.n < r.cells.length) : Calls Try.prog 198 #[.pointer (some ⟨p, 0, none⟩)] w fun e w' => e = .returned (.int .i64 0) ∧ ∃ n, w' = w.drewN n := by
  obtain ⟨⟨a, cap, tail, hx⟩, hw⟩ := h
  have c1 : w.cell? ⟨p, 1, none⟩ = some (.int .i64 r.room) := hx.1.cell rfl
  have c2 : w.cell? ⟨p, 2, none⟩ = some (.slice a r.cells.length cap) := hx.1.cell rfl
  have c4 : w.cell? ⟨p, 4, none⟩ = some (.int .i64 r.n) := hx.1.cell rfl
  have hlt : (r.n : Int) < r.room := by omega
  have hne : ((r.n : Int) == (r.cells.length : Int)) = false := beq_eq_false_iff_ne.2 (by omega)
  clear hx hw
  go_enter Try.func198, Try.ntmps198
  go_wp2
  go_quiet (fail)
  go_wp2
  go_quiet (fail)
  go_wp2
  go_ret
  exact ⟨rfl, _, World.drewN_drewN _ _ _⟩

end Go.Proofs.Ytopgfhcgfpceaaa
