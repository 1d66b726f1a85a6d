/- The laws of ready: heads. -/
import Derived.Test.YtopgfhcgfpceaaaLrC
namespace Go.Proofs.Ytopgfhcgfpceaaa
open Go.RowKit Go.Shelf

theorem QMade.ok {w : World} {rows : List (Int × Int)} {e : Ending} {w' : World} (h : QMade w rows e w') (hr : rowsOk rows rows.length) : e = .returned (.tuple #[.pointer (some ⟨w.heap.size, 0, none⟩), .int .i64 0]) ∧ Kept [] w w' ∧ ∃ F', QS w' F' w.heap.size (rows.map toQR) ∧ ∀ x ∈ F', w.heap.size ≤ x := by
  obtain ⟨hk, h1 | h1⟩ := h
  · exact ⟨h1.2.1, hk, h1.2.2⟩
  · exact absurd hr h1.1

theorem headRows : rowsOk [(3, 1), (1, 2)] 2 := by
  intro i x hi hx
  match i, hi with
  | 0, _ => simp at hx; subst hx; exact ⟨by decide, by decide, fun y _ h => absurd h (by decide), by decide, by decide⟩
  | 1, _ => simp at hx; subst hx; exact ⟨by decide, by decide, fun y hy _ => by simp at hy; subst hy; decide, by decide, by decide⟩

def hq0 : List QR := [⟨3, 1, [], 0⟩, ⟨1, 2, [], 0⟩]
def hq1 : List QR := [⟨3, 1, [], 0⟩, ⟨1, 2, [7], 1⟩]
def hq2 : List QR := [⟨3, 1, [8], 1⟩, ⟨1, 2, [7], 1⟩]
def hq3 : List QR := [⟨3, 1, [], 1⟩, ⟨1, 2, [7], 1⟩]

set_option maxRecDepth 100000 in
set_option maxHeartbeats 2000000 in
theorem law_heads (w : World) : Calls Try.prog 25 #[] w fun e w' => e = .returned (.bool true) ∧ Kept [] w w' := by
  have hse := fun w => queued_eq w 3 8 3 8
  have hqq := q_some_eq
  obtain ⟨w0, hw0⟩ : ∃ w0, w0 = w.alloc (.cells #[.int .i64 3, .int .i64 1, .int .i64 1, .int .i64 2] 191) := ⟨_, rfl⟩
  have k0 : Kept [] w w0 := by rw [hw0]; exact (Kept.refl _ _).alloc _
  have hR : Row w0 w.heap.size 191 [.int .i64 3, .int .i64 1, .int .i64 1, .int .i64 2] := by rw [hw0]; exact Row.new' rfl
  have hnew := q_New w0 (some ⟨w.heap.size, 0, none⟩) 2 [(3, 1), (1, 2)] ⟨rfl, fun _ => ⟨_, 0, rfl, hR.lt, fun j v hj => by rw [Nat.zero_add]; exact hR.cell hj⟩⟩ (by simp)
  have s1 : qput false hq0 1 7 = (0, hq1) := rfl
  have s2 : qput false hq1 3 8 = (0, hq2) := rfl
  have s3 : qput false hq2 3 9 = (131, hq2) := rfl
  have s4 : qput false hq2 2 9 = (130, hq2) := rfl
  have s5 : qtake hq2 = ((3, 8, 0), hq3) := rfl
  have hT : ∀ w F b qs p id c qs', qput false qs p id = (c, qs') → QS w F b qs → Calls Try.prog 26 #[.pointer (some ⟨b, 0, none⟩), .int .i64 p, .int .i64 id] w fun e w' => e = .returned (.int .i64 c) ∧ Kept F w w' ∧ ∃ F', QS w' F' b qs' ∧ ∀ y ∈ F', y ∈ F ∨ w.heap.size ≤ y := by
    intro w F b qs p id c qs' hx h
    have := q_Tail w F b qs p id h
    rw [hx] at this
    exact this
  have hst : ∀ (wa wb : World) (F F' : List Nat), Kept F wa wb → (∀ x ∈ F, w0.heap.size ≤ x) → (∀ y ∈ F', y ∈ F ∨ wa.heap.size ≤ y) → Kept [] w0 wa → Kept [] w0 wb ∧ ∀ x ∈ F', w0.heap.size ≤ x := by
    intro wa wb F F' hk hF hF' hk0
    refine ⟨hk0.then hk (fun x hx => .inr (hF x hx)), fun x hx => ?_⟩
    rcases hF' x hx with h1 | h1
    · exact hF x h1
    · exact Nat.le_trans hk0.size h1
  have hmap : [(3, 1), (1, 2)].map toQR = hq0 := rfl
  subst hw0
  go_enter Try.func25, Try.ntmps25
  go_wp2_with (fail)
  refine hnew.mono ?_
  rintro e w1 hm
  obtain ⟨rfl, k1, F1, h1, f1⟩ := hm.ok headRows
  rw [hmap, World.size_alloc] at h1
  clear hnew hm hR
  go_wp2_with (fail)
  refine (hT _ _ _ _ 1 7 _ _ s1 h1).mono ?_
  rintro e w2 ⟨rfl, k2, F2, h2, f2⟩
  obtain ⟨k2, f2⟩ := hst _ _ _ _ k2 f1 f2 k1
  clear h1 f1 k1
  go_wp2_with (fail)
  refine (hT _ _ _ _ 3 8 _ _ s2 h2).mono ?_
  rintro e w3 ⟨rfl, k3, F3, h3, f3⟩
  obtain ⟨k3, f3⟩ := hst _ _ _ _ k3 f2 f3 k2
  clear h2 f2 k2
  go_wp2_with (fail)
  refine (hT _ _ _ _ 3 9 _ _ s3 h3).mono ?_
  rintro e w4 ⟨rfl, k4, F4, h4, f4⟩
  obtain ⟨k4, f4⟩ := hst _ _ _ _ k4 f3 f4 k3
  clear h3 f3 k3
  go_wp2_with (fail)
  refine (hT _ _ _ _ 2 9 _ _ s4 h4).mono ?_
  rintro e w5 ⟨rfl, k5, F5, h5, f5⟩
  obtain ⟨k5, f5⟩ := hst _ _ _ _ k5 f4 f5 k4
  clear h4 f4 k4
  go_wp2_with (fail)
  have hTk := q_Take w5 F5 _ hq2 h5
  rw [s5] at hTk
  refine hTk.mono ?_
  rintro e w6 ⟨rfl, k6, F6, h6, f6⟩
  obtain ⟨k6, f6⟩ := hst _ _ _ _ k6 f5 f6 k5
  clear h5 f5 k5 hTk
  have k7 := k6.alloc (.cells #[.int .i64 3, .int .i64 8] 61)
  have h7 := h6.kept ((Kept.refl [] w6).alloc (.cells #[.int .i64 3, .int .i64 8] 61)) (by simp)
  obtain ⟨⟨pp, qq, h8, _⟩, _⟩ := h7
  have c65 := h8.c65
  have hb : qbits hq3 = 2 := rfl
  rw [hb] at c65
  have hHi := q_Highest_some _ _ 2 (by decide) (by decide) c65
  have hBi := q_Bits _ _ 2 c65
  have hl2 : Nat.log2 2 = 1 := by decide
  rw [hl2] at hHi
  clear h6 f6 k6 h8 hst hT
  go_wp2_with (fail)
  refine hHi.mono ?_
  rintro e w7 ⟨rfl, rfl⟩
  have hkw : Kept [] w (w6.alloc (.cells #[.int .i64 3, .int .i64 8] 61)) := k0.trans k7
  clear hHi k0 k7
  go_wp2_with (go_at_call 44; refine hBi.mono ?_; rintro e w' ⟨rfl, rfl⟩)
  go_ret
  exact ⟨rfl, hkw⟩
end Go.Proofs.Ytopgfhcgfpceaaa
