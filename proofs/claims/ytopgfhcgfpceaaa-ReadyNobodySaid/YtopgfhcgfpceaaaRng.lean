/- Rings of ints as plain data, and how one stands in memory. -/
import Derived.Test.YtopgfhcgfpceaaaInf
import Derived.Laws.AppendOwnNone
import Derived.Deep.RegionLaw
namespace Go.Proofs.Ytopgfhcgfpceaaa
open Go.RowKit

/-- A ring as its fields stand. -/
structure Rg where
  room : Nat
  cells : List Int
  from_ : Nat
  n : Nat
  high : Nat

/-- Its things in order. -/
def Rg.items (r : Rg) : List Int := (List.range r.n).map fun i => r.cells[(r.from_ + i) % r.cells.length]?.getD 0

structure Rg.wf (r : Rg) : Prop where
  room : r.room ≤ 65536
  len : r.cells.length ≤ r.room
  n : r.n ≤ r.cells.length
  fr : r.from_ ≤ r.cells.length
  fr2 : 0 < r.cells.length → r.from_ < r.cells.length
  hi : r.n ≤ r.high
  hi2 : r.high ≤ r.room

theorem Rg.items_length (r : Rg) : r.items.length = r.n := by simp [Rg.items]

def Rg.rcells (r : Rg) (a : Option Addr) (cap : Nat) : List Value := [.bool true, .int .i64 r.room, .slice a r.cells.length cap, .int .i64 r.from_, .int .i64 r.n, .int .i64 r.high]

/-- A ring in memory; one without cells may name any block as theirs. -/
def RgX (w : World) (p q : Nat) (a : Option Addr) (cap : Nat) (tail : List Value) (r : Rg) : Prop :=
  Row w p 288 (r.rcells a cap) ∧ (r.cells = [] ∨ (a = some ⟨q, 0, none⟩ ∧ Row w q 3 ((r.cells.map fun i => .int .i64 i) ++ tail) ∧ p ≠ q)) ∧ r.cells.length ≤ cap ∧ cap ≤ 9223372036854775807 ∧ (a = none → cap = 0)

def RgAt (w : World) (p q : Nat) (r : Rg) : Prop := (∃ a cap tail, RgX w p q a cap tail r) ∧ r.wf

theorem RgX.kept {w w' : World} {p q : Nat} {a : Option Addr} {cap : Nat} {tail : List Value} {r : Rg} {S : List Nat} (h : RgX w p q a cap tail r) (hk : Kept S w w') (hp : p ∉ S) (hq : q ∉ S) : RgX w' p q a cap tail r :=
  ⟨h.1.kept hk hp, h.2.1.imp id fun h1 => ⟨h1.1, h1.2.1.kept hk hq, h1.2.2⟩, h.2.2⟩
theorem RgAt.kept {w w' : World} {p q : Nat} {r : Rg} {S : List Nat} (h : RgAt w p q r) (hk : Kept S w w') (hp : p ∉ S) (hq : q ∉ S) : RgAt w' p q r := by
  obtain ⟨⟨a, cap, tail, hx⟩, hw⟩ := h
  exact ⟨⟨a, cap, tail, hx.kept hk hp hq⟩, hw⟩
theorem RgAt.near {w : World} {p q : Nat} {r : Rg} (h : RgAt w p q r) : ∃ q', (q' = q ∨ q' = p) ∧ q' < w.heap.size ∧ RgAt w p q' r := by
  obtain ⟨⟨a, cap, tail, hx⟩, hw⟩ := h
  rcases hx.2.1 with h1 | h1
  · exact ⟨p, .inr rfl, hx.1.lt, ⟨a, cap, tail, hx.1, .inl h1, hx.2.2⟩, hw⟩
  · exact ⟨q, .inl rfl, h1.2.1.lt, ⟨a, cap, tail, hx⟩, hw⟩

theorem rg_alive (w : World) (p q : Nat) (r : Rg) (h : RgAt w p q r) : Calls Try.prog 197 #[.pointer (some ⟨p, 0, none⟩)] w fun e w' => e = .returned (.bool true) ∧ w = w' := by
  obtain ⟨⟨a, cap, tail, hx⟩, hw⟩ := h
  have c0 : w.cell? ⟨p, 0, none⟩ = some (.bool true) := hx.1.cell rfl
  have hnn : ∀ w p, (binOp .neq 90 (.pointer (some ⟨p, 0, none⟩)) (.pointer none)).run Try.prog w = .ok (.bool true) w := fun w p => by kernel_rfl
  clear hx hw
  go_enter Try.func197, Try.ntmps197
  go_wp2
  go_ret
  exact ⟨rfl, rfl⟩

theorem rg_alive_nil (w : World) : Calls Try.prog 197 #[.pointer none] w fun e w' => e = .returned (.bool false) ∧ w = w' := by
  have hnn : ∀ w, (binOp .neq 90 (.pointer none) (.pointer none)).run Try.prog w = .ok (.bool false) w := fun w => by kernel_rfl
  go_enter Try.func197, Try.ntmps197
  go_wp2
  go_ret
  exact ⟨rfl, rfl⟩

theorem rg_Len (w : World) (p q : Nat) (r : Rg) (h : RgAt w p q r) : Calls Try.prog 107 #[.pointer (some ⟨p, 0, none⟩)] w fun e w' => e = .returned (.int .i64 r.n) ∧ w = w' := by
  have ha := rg_alive w p q r h
  obtain ⟨⟨a, cap, tail, hx⟩, hw⟩ := h
  have c4 : w.cell? ⟨p, 4, none⟩ = some (.int .i64 r.n) := hx.1.cell rfl
  clear hx hw
  go_enter Try.func107, Try.ntmps107
  go_wp2_with (go_at_call 197; refine ha.mono ?_; rintro e w' ⟨rfl, rfl⟩)
  go_ret
  exact ⟨rfl, rfl⟩

theorem rg_Len_nil (w : World) : Calls Try.prog 107 #[.pointer none] w fun e w' => e = .returned (.int .i64 0) ∧ w = w' := by
  go_enter Try.func107, Try.ntmps107
  go_wp2_with (go_at_call 197; refine (rg_alive_nil _).mono ?_; rintro e w' ⟨rfl, rfl⟩)
  go_ret
  exact ⟨rfl, rfl⟩

theorem rg_High (w : World) (p q : Nat) (r : Rg) (h : RgAt w p q r) : Calls Try.prog 208 #[.pointer (some ⟨p, 0, none⟩)] w fun e w' => e = .returned (.int .i64 r.high) ∧ w = w' := by
  have ha := rg_alive w p q r h
  obtain ⟨⟨a, cap, tail, hx⟩, hw⟩ := h
  have c4 : w.cell? ⟨p, 5, none⟩ = some (.int .i64 r.high) := hx.1.cell rfl
  clear hx hw
  go_enter Try.func208, Try.ntmps208
  go_wp2_with (go_at_call 197; refine ha.mono ?_; rintro e w' ⟨rfl, rfl⟩)
  go_ret
  exact ⟨rfl, rfl⟩

theorem rg_High_nil (w : World) : Calls Try.prog 208 #[.pointer none] w fun e w' => e = .returned (.int .i64 0) ∧ w = w' := by
  go_enter Try.func208, Try.ntmps208
  go_wp2_with (go_at_call 197; refine (rg_alive_nil _).mono ?_; rintro e w' ⟨rfl, rfl⟩)
  go_ret
  exact ⟨rfl, rfl⟩

end Go.Proofs.Ytopgfhcgfpceaaa
