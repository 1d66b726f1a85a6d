/- The walks of package clock: what an alarm tells; the sums; Tick. -/
import Derived.Test.YtopgfhcgfpceaaaClkB
namespace Go.Proofs.Ytopgfhcgfpceaaa
open Go.RowKit

theorem emod_bd (a m : Int) (h : 0 < m) : 0 ≤ a % m ∧ a % m < m := ⟨Int.emod_nonneg _ (by omega), Int.emod_lt_of_pos _ h⟩

theorem ck_after (g a t : Int) (w : World) (h0 : 0 ≤ g) (h1 : g ≤ 4294967295) (h2 : 0 ≤ a) (h3 : a ≤ 4294967295) (h4 : 0 ≤ t) (h5 : t < 18446744073709551616) :
    Calls Try.prog 84 #[.int .u32 g, .int .u32 a, .int .u64 t] w fun e w' => e = .returned (.int .u32 (after_ g a t)) ∧ w = w' := by
  have hb := emod_bd t (g + 1) (by omega)
  obtain ⟨hb0, hb1⟩ := hb
  have hc := emod_bd (g + t % (g + 1)) (g + 1) (by omega)
  have hd := emod_bd (a + t % (g + 1)) (g + 1) (by omega)
  have hg : g + t % (g + 1) < 18446744073709551616 := by omega
  have key : ∀ x : Int, 0 ≤ x → x ≤ g → (IntKind.u64.wrap (x + t % (g + 1))).tmod (g + 1) % 4294967296 = (x + t % (g + 1)) % (g + 1) := by
    intro x hx0 hx1
    have e1 : IntKind.u64.wrap (x + t % (g + 1)) = x + t % (g + 1) := IntWalk.u64_in _ (by omega)
    rw [e1, Int.tmod_eq_emod_of_nonneg (by omega)]
    have := emod_bd (x + t % (g + 1)) (g + 1) (by omega)
    omega
  rcases Int.lt_or_le g a with ha | ha
  · have k1 := key g h0 (Int.le_refl _)
    have e : after_ g a t = (g + t % (g + 1)) % (g + 1) := by unfold after_; rw [show min a g = g by omega]
    rw [e, ← k1]
    clear hb0 hb1 hc hd hg key k1 e
    go_enter Try.func84, Try.ntmps84
    go_wp2
    go_ret
    exact ⟨rfl, rfl⟩
  · have k1 := key a h2 ha
    have e : after_ g a t = (a + t % (g + 1)) % (g + 1) := by unfold after_; rw [show min a g = a by omega]
    rw [e, ← k1]
    clear hb0 hb1 hc hd hg key k1 e
    go_enter Try.func84, Try.ntmps84
    go_wp2
    go_ret
    exact ⟨rfl, rfl⟩

theorem ck_next (g a : Int) (w : World) (h0 : 0 ≤ g) (h1 : g ≤ 4294967295) (h2 : 0 ≤ a) (h3 : a ≤ 4294967295) :
    Calls Try.prog 93 #[.int .u32 g, .int .u32 a] w fun e w' => e = .returned (.int .u32 (after_ g a 1)) ∧ w = w' := by
  have hc := ck_after g a 1 w h0 h1 h2 h3 (by omega) (by omega)
  go_enter Try.func93, Try.ntmps93
  go_wp2_with (go_at_call 84; refine hc.mono ?_; rintro e w' ⟨rfl, rfl⟩)
  go_ret
  exact ⟨rfl, rfl⟩

theorem ck_Value (w : World) (p q : Nat) (c : Clk) (h : ClockAt w p q c) :
    Calls Try.prog 83 #[.pointer (some ⟨p, 0, none⟩)] w fun e w' => e = .returned (.int .u32 c.value) ∧ w = w' := by
  have h0 := h.c0
  have h3 := h.c3
  clear h
  go_enter Try.func83, Try.ntmps83
  go_wp2
  go_ret
  exact ⟨rfl, rfl⟩

/-- How an alarm stands: one new block, the result's own. -/
theorem ck_of (w : World) (p q : Nat) (c : Clk) (n : Int) (h : ClockAt w p q c) :
    Calls Try.prog 96 #[.pointer (some ⟨p, 0, none⟩), .int .i64 n] w fun e w' => e = .returned (.tuple #[.agg (c.of n).1.enc.toArray, .int .i64 (c.of n).2]) ∧ Kept [] w w' := by
  have h4 := h.c4
  have h0 := h.c0
  have hn := h.wf.n
  by_cases h1 : 0 ≤ n ∧ n < c.al.length
  · obtain ⟨hb0, hb1⟩ := h1
    have hlt : n.toNat < c.al.length := by omega
    have hget : c.al[n.toNat]? = some (c.at n) := by simp [Clk.at, hlt]
    have hq := h.arow.lt
    have g0 := h.a0 hget
    have g1 := h.a1 hget
    have g2 := h.a2 hget
    have hp := h.row.lt
    have hh : c.has n = true := by simp [Clk.has, hb0, hb1]
    clear h hget
    by_cases h2 : (c.at n).set = true
    · rw [h2] at g0
      have e1 : c.of n = (c.at n, 0) := by simp [Clk.of, hh, h2]
      have e2 : (c.at n).enc = [.bool true, .int .u64 (c.at n).left, .int .u32 (c.at n).cycle] := by simp [Alm.enc, h2]
      rw [e1, e2]
      clear hh e1 e2 h2
      go_enter Try.func96, Try.ntmps96
      go_wp2
      refine bodyPost_ret (v := .tuple #[.agg #[.bool true, .int .u64 (c.at n).left, .int .u32 (c.at n).cycle], .int .i64 0]) (by simp [results, Try.results96, go_sem]) rfl ⟨rfl, ?_⟩
      exact ((Kept.refl [] w).alloc _)
    · have h2' : (c.at n).set = false := by simpa using h2
      rw [h2'] at g0
      have e1 : c.of n = (Alm.zero, 5) := by simp [Clk.of, hh, h2']
      rw [e1]
      clear hh e1 h2
      go_enter Try.func96, Try.ntmps96
      go_wp2
      refine bodyPost_ret (v := .tuple #[.agg #[.bool false, .int .u64 0, .int .u32 0], .int .i64 5]) (by simp [results, Try.results96, go_sem]) rfl ⟨rfl, ?_⟩
      exact ((Kept.refl [] w).alloc _)
  · have hh : c.has n = false := by simp [Clk.has]; omega
    have e1 : c.of n = (Alm.zero, 3) := by simp [Clk.of, hh]
    rw [e1]
    have hc := fun o => ck_has (w.alloc o) p q c n (h.kept ((Kept.refl [] w).alloc o) (by simp) (by simp))
    rw [hh] at hc
    clear e1 h h1 hh
    go_enter Try.func96, Try.ntmps96
    go_wp2_with (go_at_call 194; refine (hc _).mono ?_; rintro e w' ⟨rfl, rfl⟩)
    refine bodyPost_ret (v := .tuple #[.agg #[.bool false, .int .u64 0, .int .u32 0], .int .i64 3]) (by simp [results, Try.results96, go_sem]) rfl ⟨rfl, ?_⟩
    exact ((Kept.refl [] w).alloc _)

theorem ck_Left (w : World) (p q : Nat) (c : Clk) (n : Int) (h : ClockAt w p q c) :
    Calls Try.prog 23 #[.pointer (some ⟨p, 0, none⟩), .int .i64 n] w fun e w' => e = .returned (.tuple #[.int .u64 (c.of n).1.left, .int .i64 (c.of n).2]) ∧ Kept [] w w' := by
  have ho := ck_of w p q c n h
  generalize hx : c.of n = x at ho ⊢
  clear hx h
  unfold Alm.enc at ho
  go_enter Try.func23, Try.ntmps23
  go_wp2_with (go_at_call 96; refine ho.mono ?_; rintro e w' ⟨rfl, hk⟩)
  go_ret2
  exact ⟨rfl, hk.alloc _⟩

theorem ck_Cycle (w : World) (p q : Nat) (c : Clk) (n : Int) (h : ClockAt w p q c) :
    Calls Try.prog 121 #[.pointer (some ⟨p, 0, none⟩), .int .i64 n] w fun e w' => e = .returned (.tuple #[.int .u32 (c.of n).1.cycle, .int .i64 (c.of n).2]) ∧ Kept [] w w' := by
  have ho := ck_of w p q c n h
  generalize hx : c.of n = x at ho ⊢
  clear hx h
  unfold Alm.enc at ho
  go_enter Try.func121, Try.ntmps121
  go_wp2_with (go_at_call 96; refine ho.mono ?_; rintro e w' ⟨rfl, hk⟩)
  go_ret2
  exact ⟨rfl, hk.alloc _⟩

end Go.Proofs.Ytopgfhcgfpceaaa
