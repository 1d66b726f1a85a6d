/- 'alive' of the clock's laws: what must come, whatever else is so. -/
import Derived.Test.YtopgfhcgfpceaaaClkI
namespace Go.Proofs.Ytopgfhcgfpceaaa
open Go.RowKit

def A0 : Clk := Clk.fresh 9 2 3
def A1 : Clk := ⟨9, 2, 0, [⟨true, 2, 0⟩, Alm.zero, Alm.zero]⟩
def A2 : Clk := ⟨9, 2, 0, [⟨true, 2, 0⟩, ⟨true, 2, 3⟩, Alm.zero]⟩
def A3 : Clk := ⟨9, 2, 1, [⟨true, 1, 0⟩, ⟨true, 1, 3⟩, Alm.zero]⟩
def A4 : Clk := ⟨9, 2, 2, [Alm.zero, ⟨true, 3, 3⟩, Alm.zero]⟩

theorem ck_Tick' (w : World) (p q : Nat) (c : Clk) (h : ClockAt w p q c) :
    Calls Try.prog 21 #[.pointer (some ⟨p, 0, none⟩)] w fun e w' => ∃ v, e = .returned v ∧ ClockAt w' p q c.tick ∧ w'.ownsRow w.heap.size 3 1 v (fired c.al 1).length ((fired c.al 1).map fun i => .int .i64 (i : Nat)) ∧ Kept [p, q] w w' :=
  ck_Tick w p q c h _ fun v _ h1 h2 h3 => ⟨v, rfl, h1, h2, h3⟩

theorem ck_New' (nm : ByteArray) (mx bs mn n : Int) (w : World) (h : Clk.may mx mn n) :
    Calls Try.prog 17 #[.agg #[.string nm, .int .u32 mx, .int .u32 bs, .int .u32 mn], .int .i64 n] w fun e w' => ∃ p q, e = .returned (.tuple #[.pointer (some ⟨p, 0, none⟩), .int .i64 0]) ∧ w.heap.size ≤ p ∧ w.heap.size ≤ q ∧ ClockAt w' p q (Clk.fresh mx mn n.toNat) ∧ Kept [] w w' :=
  ck_New nm mx bs mn n w h _ fun p q _ h1 h2 h3 h4 => ⟨p, q, rfl, h1, h2, h3, h4⟩

theorem kq {w w' : World} {p q : Nat} (h : Kept [q] w w') : Kept [p, q] w w' := h.mono (by simp)
theorem k0 {w w' : World} {p q : Nat} (h : Kept [] w w') : Kept [p, q] w w' := h.mono (by simp)

theorem al0 (w : World) : Calls Try.prog 17 #[.agg #[.string ByteArray.empty, .int .u32 9, .int .u32 0, .int .u32 2], .int .i64 3] w fun e w' => ∃ p q, e = .returned (.tuple #[.pointer (some ⟨p, 0, none⟩), .int .i64 0]) ∧ w.heap.size ≤ p ∧ w.heap.size ≤ q ∧ ClockAt w' p q A0 ∧ Kept [] w w' :=
  ck_New' ByteArray.empty 9 0 2 3 w (by unfold Clk.may; omega)
theorem al1 (w : World) (p q : Nat) (h : ClockAt w p q A0) : Calls Try.prog 19 #[.pointer (some ⟨p, 0, none⟩), .int .i64 0, .int .u32 2, .int .u32 0] w fun e w' => e = .returned (.int .i64 0) ∧ ClockAt w' p q A1 ∧ Kept [p, q] w w' := by
  have := ck_Rel w p q A0 0 2 0 h (by omega) (by omega)
  rw [show A0.rel 0 2 0 = (0, A1) from rfl] at this
  exact this.mono fun e w' ⟨h1, h2, h3⟩ => ⟨h1, h2, kq h3⟩
theorem al2 (w : World) (p q : Nat) (h : ClockAt w p q A1) : Calls Try.prog 20 #[.pointer (some ⟨p, 0, none⟩), .int .i64 1, .int .u32 2, .int .u32 3] w fun e w' => e = .returned (.int .i64 0) ∧ ClockAt w' p q A2 ∧ Kept [p, q] w w' := by
  have := ck_Abs w p q A1 1 2 3 h (by omega) (by omega)
  rw [show A1.abs 1 2 3 = (0, A2) from rfl] at this
  exact this.mono fun e w' ⟨h1, h2, h3⟩ => ⟨h1, h2, kq h3⟩
theorem al3 (w : World) (p q : Nat) (h : ClockAt w p q A2) : Calls Try.prog 19 #[.pointer (some ⟨p, 0, none⟩), .int .i64 2, .int .u32 1, .int .u32 1] w fun e w' => e = .returned (.int .i64 8) ∧ ClockAt w' p q A2 ∧ Kept [p, q] w w' := by
  have := ck_Rel w p q A2 2 1 1 h (by omega) (by omega)
  rw [show A2.rel 2 1 1 = (8, A2) from rfl] at this
  exact this.mono fun e w' ⟨h1, h2, h3⟩ => ⟨h1, h2, kq h3⟩
theorem al4 (w : World) (p q : Nat) (h : ClockAt w p q A2) : Calls Try.prog 21 #[.pointer (some ⟨p, 0, none⟩)] w fun e w' => ∃ a cap, e = .returned (.slice a 0 cap) ∧ ClockAt w' p q A3 ∧ Kept [p, q] w w' := by
  refine (ck_Tick' w p q A2 h).mono ?_
  rintro e w' ⟨v, h1, h2, h3, h4⟩
  rw [show A2.tick = A3 from rfl] at h2
  obtain ⟨a, cap, rfl, _⟩ := owns_slice h3
  exact ⟨a, cap, h1, h2, h4⟩
theorem al5 (w : World) (p q : Nat) (h : ClockAt w p q A3) : Calls Try.prog 21 #[.pointer (some ⟨p, 0, none⟩)] w fun e w' => ∃ g cap, e = .returned (.slice (some ⟨g, 0, none⟩) 2 cap) ∧ ClockAt w' p q A4 ∧ w'.cell? ⟨g, 0, none⟩ = some (.int .i64 0) ∧ w'.cell? ⟨g, 1, none⟩ = some (.int .i64 1) ∧ Kept [p, q] w w' := by
  refine (ck_Tick' w p q A3 h).mono ?_
  rintro e w' ⟨v, h1, h2, h3, h4⟩
  rw [show A3.tick = A4 from rfl] at h2
  rw [show fired A3.al 1 = [0, 1] from rfl] at h3
  rcases h3.2 with ⟨_, h5⟩ | ⟨g, cap, cur, rfl, h5⟩
  · simp at h5
  · have hc := h3.cells (g := g) rfl
    exact ⟨g, cap, h1, h2, by simpa [Addr.add] using hc 0 (.int .i64 0) rfl, by simpa [Addr.add] using hc 1 (.int .i64 1) rfl, h4⟩
theorem al6 (w : World) (p q : Nat) (h : ClockAt w p q A4) : Calls Try.prog 23 #[.pointer (some ⟨p, 0, none⟩), .int .i64 1] w fun e w' => e = .returned (.tuple #[.int .u64 3, .int .i64 0]) ∧ ClockAt w' p q A4 ∧ Kept [] w w' := by
  have := ck_Left w p q A4 1 h
  rw [show A4.of 1 = (⟨true, 3, 3⟩, 0) from rfl] at this
  exact this.mono fun e w' ⟨h1, h2⟩ => ⟨h1, h.kept h2 (by simp) (by simp), h2⟩
theorem al7 (w : World) (p q : Nat) (h : ClockAt w p q A4) : Calls Try.prog 83 #[.pointer (some ⟨p, 0, none⟩)] w fun e w' => e = .returned (.int .u32 2) ∧ w = w' := ck_Value w p q A4 h
theorem al8 (w : World) : Calls Try.prog 84 #[.int .u32 9, .int .u32 8, .int .u64 18446744073709551615] w fun e w' => e = .returned (.int .u32 3) ∧ w = w' := by
  have := ck_after 9 8 18446744073709551615 w (by omega) (by omega) (by omega) (by omega) (by omega) (by omega)
  rw [show after_ 9 8 18446744073709551615 = 3 from by decide] at this
  exact this

theorem kept_pq {w w' w2 : World} {p q : Nat} (h : Kept [] w w') (k : Kept [p, q] w' w2) (hp : w.heap.size ≤ p) (hq : w.heap.size ≤ q) : Kept [] w w2 :=
  h.then k (by intro i hi; simp at hi; rcases hi with rfl | rfl; exact .inr hp; exact .inr hq)

set_option maxHeartbeats 1600000 in
set_option maxRecDepth 20000 in
theorem law_alive (w : World) : Calls Try.prog 18 #[] w fun e w' => e = .returned (.bool true) ∧ Kept [] w w' := by
  go_enter Try.func18, Try.ntmps18
  go_wp2_with (first | (go_at_call 17; refine (al0 _).mono ?_; rintro e w0 ⟨p, q, rfl, hp, hq, c0, kk⟩) | (go_at_call 33; go_in) | (go_at_call 19; with_reducible refine (al1 _ _ _ c0).mono ?_; rintro e w1 ⟨rfl, c1, k1⟩; have kk := kept_pq kk k1 hp hq; clear c0 k1) | (go_at_call 20; with_reducible refine (al2 _ _ _ c1).mono ?_; rintro e w2 ⟨rfl, c2, k1⟩; have kk := kept_pq kk k1 hp hq; clear c1 k1) | (go_at_call 19; with_reducible refine (al3 _ _ _ c2).mono ?_; rintro e w3 ⟨rfl, c3, k1⟩; have kk := kept_pq kk k1 hp hq; clear c2 k1) | (go_at_call 21; with_reducible refine (al4 _ _ _ c3).mono ?_; rintro e w4 ⟨a4, cap4, rfl, c4, k1⟩; have kk := kept_pq kk k1 hp hq; clear c3 k1) | (go_at_call 21; with_reducible refine (al5 _ _ _ c4).mono ?_; rintro e w5 ⟨g5, cap5, rfl, c5, s0, s1, k1⟩; have kk := kept_pq kk k1 hp hq; clear c4 k1) | (go_at_call 23; with_reducible refine (al6 _ _ _ c5).mono ?_; rintro e w6 ⟨rfl, c6, k1⟩; have s0 := k1.cell s0 (by simp); have s1 := k1.cell s1 (by simp); have kk := kk.trans k1; clear c5 k1) | (go_at_call 83; with_reducible refine (al7 _ _ _ c6).mono ?_; rintro e w7 ⟨rfl, rfl⟩) | (go_at_call 84; with_reducible refine (al8 _).mono ?_; rintro e w7 ⟨rfl, rfl⟩))
  go_ret
  exact ⟨rfl, kk⟩
end Go.Proofs.Ytopgfhcgfpceaaa
