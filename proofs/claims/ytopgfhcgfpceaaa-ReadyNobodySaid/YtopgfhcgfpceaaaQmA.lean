/- The walk of package ready: at, Bits, High, Highest. -/
import Derived.Test.YtopgfhcgfpceaaaQm
import Derived.Test.YtopgfhcgfpceaaaShelf
namespace Go.Proofs.Ytopgfhcgfpceaaa
open Go.RowKit

variable {m : Bool}

theorem q_nil_eq (w : World) : (binOp .eql 47 (.pointer none) (.pointer none)).run Try.prog w = .ok (.bool true) w := by kernel_rfl
theorem q_some_eq (w : World) (b : Nat) : (binOp .eql 47 (.pointer (some ⟨b, 0, none⟩)) (.pointer none)).run Try.prog w = .ok (.bool false) w := by kernel_rfl

theorem q_at_nil (w : World) (p : Int) : Calls Try.prog 104 #[.pointer none, .int .i64 p] w fun e w' => e = .returned (.pointer none) ∧ w = w' := by
  have hq := q_nil_eq
  go_enter Try.func104, Try.ntmps104
  go_wp2
  go_ret
  exact ⟨rfl, rfl⟩

theorem q_at (w : World) (b : Nat) (pp qq : Nat → Nat) (qs : List QR) (bits : Nat) (p : Int) (h : QAtB m w b pp qq qs bits) : Calls Try.prog 104 #[.pointer (some ⟨b, 0, none⟩), .int .i64 p] w fun e w' => e = .returned (.pointer (qptr pp qs p)) ∧ w = w' := by
  have hq := q_some_eq
  by_cases hp : p < 0
  · have e : qptr pp qs p = none := by unfold qptr; rw [qfind_out h.wf (.inl hp)]; rfl
    rw [e]
    clear h e
    go_enter Try.func104, Try.ntmps104
    go_wp2
    go_ret
    exact ⟨rfl, rfl⟩
  by_cases hp2 : 63 < p
  · have e : qptr pp qs p = none := by unfold qptr; rw [qfind_out h.wf (.inr hp2)]; rfl
    rw [e]
    clear h e
    go_enter Try.func104, Try.ntmps104
    go_wp2
    go_ret
    exact ⟨rfl, rfl⟩
  obtain ⟨k, rfl⟩ := Int.eq_ofNat_of_zero_le (by omega : 0 ≤ p)
  have hk : k < 64 := by omega
  have hc := h.ck k hk
  have hk1 : (k : Int) < 64 := by omega
  clear h hp hp2
  generalize qptr pp qs k = a at *
  go_enter Try.func104, Try.ntmps104
  go_wp2
  go_ret
  exact ⟨rfl, rfl⟩

theorem q_Bits_nil (w : World) : Calls Try.prog 44 #[.pointer none] w fun e w' => e = .returned (.int .u64 0) ∧ w = w' := by
  have hq := q_nil_eq
  go_enter Try.func44, Try.ntmps44
  go_wp2
  go_ret
  exact ⟨rfl, rfl⟩

theorem q_Bits (w : World) (b bits : Nat) (hc : w.cell? ⟨b, 65, none⟩ = some (.int .u64 bits)) : Calls Try.prog 44 #[.pointer (some ⟨b, 0, none⟩)] w fun e w' => e = .returned (.int .u64 bits) ∧ w = w' := by
  have hq := q_some_eq
  go_enter Try.func44, Try.ntmps44
  go_wp2
  go_ret
  exact ⟨rfl, rfl⟩

theorem q_High_nil (w : World) (p : Int) : Calls Try.prog 126 #[.pointer none, .int .i64 p] w fun e w' => e = .returned (.int .i64 0) ∧ w = w' := by
  go_enter Try.func126, Try.ntmps126
  go_wp2_with (first | (go_at_call 104; refine (q_at_nil _ _).mono ?_; rintro e w' ⟨rfl, rfl⟩) | (go_at_call 208; refine (rg_High_nil _).mono ?_; rintro e w' ⟨rfl, rfl⟩))
  go_ret
  exact ⟨rfl, rfl⟩

theorem q_High (w : World) (b : Nat) (pp qq : Nat → Nat) (qs : List QR) (bits : Nat) (p : Int) (h : QAtB m w b pp qq qs bits) : Calls Try.prog 126 #[.pointer (some ⟨b, 0, none⟩), .int .i64 p] w fun e w' => e = .returned (.int .i64 (qmost qs p)) ∧ w = w' := by
  have ha := q_at w b pp qq qs bits p h
  have hh : Calls Try.prog 208 #[.pointer (qptr pp qs p)] w fun e w' => e = .returned (.int .i64 (qmost qs p)) ∧ w = w' := by
    unfold qptr qmost
    cases hf : qfind qs p with
    | none => exact rg_High_nil w
    | some i =>
      obtain ⟨r, h1, h2⟩ := qfind_some hf
      obtain ⟨g, h3, h4, h5, h6, h7⟩ := h.ring i r h1
      simp only [h1, Option.map_some, ← h6]
      exact rg_High w _ _ g h3
  clear h
  generalize qptr pp qs p = a at *
  generalize qmost qs p = m at *
  go_enter Try.func126, Try.ntmps126
  go_wp2_with (first | (go_at_call 104; refine ha.mono ?_; rintro e w' ⟨rfl, rfl⟩) | (go_at_call 208; refine hh.mono ?_; rintro e w' ⟨rfl, rfl⟩))
  go_ret
  exact ⟨rfl, rfl⟩

theorem q_Highest_nil (w : World) : Calls Try.prog 99 #[.pointer none] w fun e w' => e = .returned (.tuple #[.int .i64 0, .bool false]) ∧ w = w' := by
  have hq := q_nil_eq
  go_enter Try.func99, Try.ntmps99
  go_wp2
  go_ret2
  exact ⟨rfl, rfl⟩

theorem q_Highest_zero (w : World) (b : Nat) (hc : w.cell? ⟨b, 65, none⟩ = some (.int .u64 0)) : Calls Try.prog 99 #[.pointer (some ⟨b, 0, none⟩)] w fun e w' => e = .returned (.tuple #[.int .i64 0, .bool false]) ∧ w = w' := by
  have hq := q_some_eq
  go_enter Try.func99, Try.ntmps99
  go_wp2
  go_ret2
  exact ⟨rfl, rfl⟩

theorem bitLen_log (n : Nat) (h : n ≠ 0) (h2 : n < 2 ^ 64) : Lib.bitLen n = n.log2 + 1 := by
  have key : ∀ (f x : Nat), x < 2 ^ f → x ≠ 0 → Lib.bitLenAux f x = x.log2 + 1 := by
    intro f
    induction f with
    | zero => intro x hx h0; omega
    | succ f ih =>
      intro x hx h0
      unfold Lib.bitLenAux
      rw [if_neg h0]
      by_cases h1 : x / 2 = 0
      · obtain rfl : x = 1 := by omega
        cases f <;> simp [Lib.bitLenAux, show Nat.log2 1 = 0 by decide]
      · rw [ih (x / 2) (by rw [Nat.pow_succ] at hx; omega) h1, Nat.log2_def x, if_pos (by omega)]
        omega
  exact key 64 n h2 h

theorem q_Highest_some (w : World) (b bits : Nat) (h0 : bits ≠ 0) (h1 : bits < 2 ^ 64) (hc : w.cell? ⟨b, 65, none⟩ = some (.int .u64 bits)) : Calls Try.prog 99 #[.pointer (some ⟨b, 0, none⟩)] w fun e w' => e = .returned (.tuple #[.int .i64 bits.log2, .bool true]) ∧ w = w' := by
  have hq := q_some_eq
  have hl := Try.bits_Len64 (bits : Int) w (by omega) (by omega)
  have hb : ((bits : Int) == 0) = false := beq_eq_false_iff_ne.2 (by omega)
  rw [Int.toNat_natCast, bitLen_log _ h0 h1] at hl
  have hlog : bits.log2 < 64 := (Nat.log2_lt h0).2 h1
  clear h1 h0
  generalize bits.log2 = m at *
  go_enter Try.func99, Try.ntmps99
  go_wp2_with (go_at_call 196; refine hl.mono ?_; rintro e w' ⟨rfl, rfl⟩)
  go_ret2
  exact ⟨rfl, rfl⟩

end Go.Proofs.Ytopgfhcgfpceaaa
