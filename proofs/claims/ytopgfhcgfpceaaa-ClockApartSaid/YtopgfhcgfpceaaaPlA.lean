/- The laws of clock: 'ints' and 'told' answer true. -/
import Derived.Test.YtopgfhcgfpceaaaRefH
import Derived.Test.YtopgfhcgfpceaaaClkN
namespace Go.Proofs.Ytopgfhcgfpceaaa
open Go.RowKit

/-- A clock and the document's clock, both as c is, apart. -/
structure Both (w : World) (pc qc pd qd : Nat) (c : Clk) : Prop where
  hc : ClockAt w pc qc c
  hd : RefAt w pd qd c
  n1 : pd ≠ pc
  n2 : pd ≠ qc
  n3 : qd ≠ pc
  n4 : qd ≠ qc
  n5 : qd < w.heap.size

/-- A document's clock without alarms may name any block as theirs. -/
theorem RefAt.near {w : World} {p q : Nat} {c : Clk} (h : RefAt w p q c) : ∃ q', (q' = q ∨ q' = p) ∧ q' < w.heap.size ∧ RefAt w p q' c := by
  obtain ⟨⟨nm, bs, a, cap, tail, hx⟩, hw⟩ := h
  rcases hx.2.1 with h1 | h1
  · exact ⟨p, .inr rfl, hx.row.lt, ⟨nm, bs, a, cap, tail, hx.1, .inl h1, hx.2.2⟩, hw⟩
  · exact ⟨q, .inl rfl, h1.2.1.lt, ⟨nm, bs, a, cap, tail, hx⟩, hw⟩

theorem Both.kept {w w' : World} {pc qc pd qd : Nat} {c : Clk} {S : List Nat} (h : Both w pc qc pd qd c) (hk : Kept S w w') (h1 : pc ∉ S) (h2 : qc ∉ S) (h3 : pd ∉ S) (h4 : qd ∉ S) : Both w' pc qc pd qd c :=
  ⟨h.hc.kept hk h1 h2, h.hd.kept hk h3 h4, h.n1, h.n2, h.n3, h.n4, Nat.lt_of_lt_of_le h.n5 hk.size⟩

set_option maxRecDepth 20000 in
theorem law_ints (w : World) (B1 B2 : Nat) (a1 a2 : Option Addr) (c1 c2 : Nat) (xs : List Nat) (h1 : w.ownsRow B1 3 1 (.slice a1 xs.length c1) xs.length (xs.map fun i => .int .i64 (i : Nat))) (h2 : w.ownsRow B2 3 1 (.slice a2 xs.length c2) xs.length (xs.map fun i => .int .i64 (i : Nat))) (hn : xs.length ≤ 64) :
    Calls Try.prog 116 #[.slice a1 xs.length c1, .slice a2 xs.length c2] w fun e w' => e = .returned (.bool true) ∧ Kept [] w w' := by
  have hb1 : ((xs.length : Int) == (xs.length : Int)) = true := by simp
  go_enter Try.func116, Try.ntmps116
  go_wp2_with (fail)
  go_loopw [5] (fun iv wr => ∃ i : Nat, i ≤ xs.length ∧ iv = .int .i64 i ∧ Kept [] w wr) (fun iv _ => xs.length - (intOf iv).toNat)
  case atStart => exact ⟨0, Nat.zero_le _, rfl, Kept.refl _ _⟩
  case round =>
    obtain ⟨i, hi, rfl, hK⟩ := hrel
    by_cases hlt : i < xs.length
    · have hx := List.getElem?_eq_getElem hlt
      have h1' := owns_kept h1 hK (by simp)
      have h2' := owns_kept h2 hK (by simp)
      obtain ⟨g1, rfl, _, s1⟩ := int_cells h1' i _ hx rfl
      obtain ⟨g2, rfl, _, s2⟩ := int_cells h2' i _ hx rfl
      have fin : ∀ nd, Kept [] w (wr.drewN nd) := fun nd => hK.trans (Kept.mk rfl rfl rfl (Nat.le_refl _) (fun _ _ _ => rfl))
      clear h1 h2 h1' h2' hx
      generalize xs[i] = x at *
      have hbx : (((x : Nat) : Int) == ((x : Nat) : Int)) = true := by simp
      generalize xs.length = n at *
      go_wp2_with (first | go_quiet (fail))
      go_roundw
      case rel => exact ⟨i + 1, by omega, by go_num, fin _⟩
      case measure => simp [intOf]; omega
    · obtain rfl : i = xs.length := by omega
      clear h1 h2
      generalize xs.length = n at *
      go_wp2
      go_ret
      exact ⟨rfl, hK⟩

set_option maxHeartbeats 3200000 in
set_option maxRecDepth 20000 in
theorem law_told (w : World) (pc qc pd qd : Nat) (c : Clk) (h : Both w pc qc pd qd c) :
    Calls Try.prog 38 #[.pointer (some ⟨pc, 0, none⟩), .pointer (some ⟨pd, 0, none⟩)] w fun e w' => e = .returned (.bool true) ∧ Kept [] w w' := by
  have hval : ∀ n, Calls Try.prog 83 #[.pointer (some ⟨pc, 0, none⟩)] (w.drewN n) fun e w' => e = .returned (.int .u32 c.value) ∧ w' = w.drewN n := fun n => (ck_Value (w.drewN n) pc qc c h.hc).mono fun _ _ hh => ⟨hh.1, hh.2.symm⟩
  have hn := h.hc.wf.n
  have hB := h
  obtain ⟨⟨nm, bs, a, cap, tail, hx⟩, hwf⟩ := h.hd
  have c5 := hx.c5
  have hcap := hx.2.2.2.1
  have hcap1 := hx.2.2.1
  have HX := Lib.hid hx
  clear h hx hwf
  have hbv : (c.value == c.value) = true := by simp
  go_enter Try.func38, Try.ntmps38
  go_wp2
  go_quiet ((go_at_call 83; exact Calls.quiet_of_same (hval _)))
  go_wp2
  have hK0 : ∀ nq, Kept [] w (w.drewN nq) := fun nq => Kept.mk rfl rfl rfl (Nat.le_refl _) (fun _ _ _ => rfl)
  go_loopw [5] (fun iv wr => ∃ i : Nat, i ≤ c.al.length + 2 ∧ iv = .int .i64 ((i : Int) - 1) ∧ Kept [] w wr) (fun iv _ => c.al.length + 2 - (intOf iv + 1).toNat)
  case atStart => exact ⟨0, Nat.zero_le _, rfl, hK0 _⟩
  case round =>
    obtain ⟨i, hi, rfl, hK⟩ := hrel
    have hX := HX.out.kept hK (by simp) (by simp)
    have g6 := hX.c6
    have hC := hB.hc.kept hK (by simp) (by simp)
    have hD := hB.hd.kept hK (by simp) (by simp)
    by_cases hlt : i < c.al.length + 2
    · have hget := rf_Get wr pd qd c ((i : Int) - 1) hD
      have hC2 := fun w2 (hk : Kept [] wr w2) => hC.kept hk (by simp) (by simp)
      have hleft := fun w2 (hk : Kept [] wr w2) => ck_Left w2 pc qc c ((i : Int) - 1) (hC2 w2 hk)
      have hcyc := fun w2 (hk : Kept [] wr w2) => ck_Cycle w2 pc qc c ((i : Int) - 1) (hC2 w2 hk)
      generalize c.of ((i : Int) - 1) = r at *
      obtain ⟨⟨s, l, y⟩, st⟩ := r
      unfold Alm.enc at hget
      dsimp only at hget hleft hcyc
      have e1 : (l == l) = true := by simp
      have e2 : (y == y) = true := by simp
      have e3 : (st == st) = true := by simp
      clear hX hC hD hB hC2
      go_wp2_with (first | (go_at_call 120; refine hget.mono ?_; rintro e w2 ⟨rfl, k2⟩; have k2' := k2.alloc (.cells #[.bool s, .int .u64 l, .int .u32 y] 212); have n2 : Row (w2.alloc (.cells #[.bool s, .int .u64 l, .int .u32 y] 212)) w2.heap.size 212 [.bool s, .int .u64 l, .int .u32 y] := Row.new' rfl) | (go_at_call 23; refine (hleft _ k2').mono ?_; rintro e w3 ⟨rfl, k3⟩; have n3 := n2.kept k3 (by simp); have k3' := k2'.trans k3) | (go_at_call 121; refine (hcyc _ k3').mono ?_; rintro e w4 ⟨rfl, k4⟩; have n4 := n3.kept k4 (by simp); have k4' := k3'.trans k4; have m1 := n4.cell (i := 1) rfl; have m2 := n4.cell (i := 2) rfl))
      go_roundw
      case rel => exact ⟨i + 1, by omega, by go_num, hK.trans k4'⟩
      case measure => simp [intOf]; omega
    · obtain rfl : i = c.al.length + 2 := by omega
      clear hX hC hD hB
      go_wp2
      go_ret
      exact ⟨rfl, hK⟩
end Go.Proofs.Ytopgfhcgfpceaaa
