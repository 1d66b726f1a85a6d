/- The laws of clock: 'play' answers true, whatever the call. -/
import Derived.Test.YtopgfhcgfpceaaaPlD
namespace Go.Proofs.Ytopgfhcgfpceaaa
open Go.RowKit

theorem law_play (w : World) (pc qc pd qd : Nat) (c : Clk) (kd al A B : Int) (hx : (⟨kd, al, A, B⟩ : CAct).wf) (h : Both w pc qc pd qd c) :
    Calls Try.prog 37 #[.pointer (some ⟨pc, 0, none⟩), .pointer (some ⟨pd, 0, none⟩), .agg #[.int .i64 kd, .int .i64 al, .int .u32 A, .int .u32 B]] w fun e w' => e = .returned (.bool true) ∧ (∃ qd' c', (qd' = qd ∨ qd' = pd ∨ w.heap.size ≤ qd') ∧ Both w' pc qc pd qd' c') ∧ Kept [pc, qc, pd, qd] w w' := by
  have a0 := hx.a0
  have a1 := hx.a1
  have b0 := hx.b0
  dsimp only at a0 a1 b0
  by_cases h1 : kd = 1
  · subst h1
    exact (law_play1 w pc qc pd qd c al A B h a0 a1).mono fun e w' ⟨r1, r2, r3⟩ => ⟨r1, ⟨qd, _, .inl rfl, r2⟩, r3⟩
  by_cases h2 : kd = 2
  · subst h2
    exact (law_play2 w pc qc pd qd c al A B h a0 a1).mono fun e w' ⟨r1, r2, r3⟩ => ⟨r1, ⟨qd, _, .inl rfl, r2⟩, r3⟩
  by_cases h3 : kd = 3
  · subst h3
    exact (law_play3 w pc qc pd qd c al A B h a0 a1 b0).mono fun e w' ⟨r1, r2, r3⟩ => ⟨r1, ⟨qd, _, .inl rfl, r2⟩, r3⟩
  by_cases h4 : kd = 4
  · subst h4
    exact (law_play4 w pc qc pd qd c al A B h).mono fun e w' ⟨r1, r2, r3⟩ => ⟨r1, ⟨qd, _, .inl rfl, r2⟩, r3⟩
  by_cases h5 : kd = 5
  · subst h5
    exact (law_play5 w pc qc pd qd c al A B h).mono fun e w' ⟨r1, r2, r3⟩ => ⟨r1, ⟨qd, _, .inl rfl, r2⟩, r3⟩
  by_cases h6 : kd = 6
  · subst h6
    exact (law_play6 w pc qc pd qd c al A B h).mono fun e w' ⟨r1, r2, r3⟩ => ⟨r1, ⟨qd, _, .inl rfl, r2⟩, r3⟩
  by_cases h7 : kd = 7
  · subst h7
    exact (law_play7 w pc qc pd qd c al A B h).mono fun e w' ⟨r1, ⟨q, r2, r4⟩, r3⟩ => ⟨r1, ⟨q, _, r2, r4⟩, r3⟩
  exact (law_play0 w pc qc pd qd c kd al A B h h1 h2 h3 h4 h5 h6 h7).mono fun e w' ⟨r1, r2, r3⟩ => ⟨r1, ⟨qd, _, .inl rfl, r2⟩, r3⟩

/-- Two clocks that the law itself has made. -/
structure Own (W w : World) (pc qc pd qd : Nat) (c : Clk) : Prop where
  b : Both w pc qc pd qd c
  k : Kept [] W w
  c0 : W.heap.size ≤ pc
  c1 : W.heap.size ≤ qc
  d0 : W.heap.size ≤ pd
  d1 : W.heap.size ≤ qd

theorem Own.then {W w w' : World} {pc qc pd qd qd' : Nat} {c c' : Clk} (h : Own W w pc qc pd qd c) (hq : qd' = qd ∨ qd' = pd ∨ w.heap.size ≤ qd') (hb : Both w' pc qc pd qd' c') (hk : Kept [pc, qc, pd, qd] w w') : Own W w' pc qc pd qd' c' := by
  have := h.k.size
  have := h.c0; have := h.c1; have := h.d0; have := h.d1
  exact ⟨hb, h.k.then hk (by intro i hi; simp at hi; exact .inr (by omega)), h.c0, h.c1, h.d0, by omega⟩

theorem Own.kept {W w w' : World} {pc qc pd qd : Nat} {c : Clk} (h : Own W w pc qc pd qd c) (hk : Kept [] w w') : Own W w' pc qc pd qd c :=
  ⟨h.b.kept hk (by simp) (by simp) (by simp) (by simp), h.k.trans hk, h.c0, h.c1, h.d0, h.d1⟩

/-- Both made. -/
theorem own_new {W w0 w1 : World} {pc qc pd q : Nat} {c : Clk} (k0 : Kept [] W w0) (hp : W.heap.size ≤ pc) (hq : W.heap.size ≤ qc) (hc : ClockAt w0 pc qc c) (k1 : Kept [] w0 w1) (h1 : w0.heap.size ≤ pd) (h2 : w0.heap.size ≤ q) (hd : RefAt w1 pd q c) : ∃ qd, Own W w1 pc qc pd qd c := by
  obtain ⟨q', hq1, hq2, hq3⟩ := hd.near
  have b1 := hc.row.lt
  have b2 := hc.arow.lt
  have := k0.size
  exact ⟨q', ⟨hc.kept k1 (by simp) (by simp), hq3, by omega, by omega, by omega, by omega, hq2⟩, k0.trans k1, hp, hq, by omega, by omega⟩

/-- The clock gives way to its copy, and is played with; then the document's. -/
theorem own_copy {W w w1 w2 w3 : World} {pc qc pd qd p' q' : Nat} {c : Clk} (h : Own W w pc qc pd qd c) (k1 : Kept [] w w1) (hp : w.heap.size ≤ p') (hq : w.heap.size ≤ q') (hc : ClockAt w1 p' q' c) (k2 : Kept [pc, qc] w1 w2) (k3 : Kept [pc, qc] w2 w3) :
    RefAt w3 pd qd c ∧ ∀ w4 pd' r, w3.heap.size ≤ pd' → w3.heap.size ≤ r → RefAt w4 pd' r c → Kept [] w3 w4 → ∃ qd', Own W w4 p' q' pd' qd' c := by
  have b1 := h.b.hc.row.lt
  have b2 := h.b.hc.arow.lt
  have hW := h.k.size
  have k23 := k2.trans k3
  have kW : Kept [] W w3 := (h.k.trans k1).then k23 (by have := h.c0; have := h.c1; intro i hi; simp at hi; exact .inr (by omega))
  refine ⟨(h.b.hd.kept k1 (by simp) (by simp)).kept k23 (by simp [h.b.n1, h.b.n2]) (by simp [h.b.n3, h.b.n4]), fun w4 pd' r h1 h2 h3 h4 => ?_⟩
  exact own_new kW (by omega) (by omega) (hc.kept k23 (by simp; omega) (by simp; omega)) h4 h1 h2 h3

theorem RefAt.made {w : World} {p q : Nat} {c : Clk} (h : RefAt w p q c) : w.cell? ⟨p, 0, none⟩ = some (.bool true) := by
  obtain ⟨⟨nm, bs, a, cap, tail, hx⟩, _⟩ := h
  exact hx.c0

set_option maxHeartbeats 1600000 in
set_option maxRecDepth 20000 in
theorem plays_bad (W : World) (nm : ByteArray) (mx bs mn m : Int) (sa : Option Addr) (n sc : Nat) (h : ¬ Clk.may mx mn m) :
    Calls Try.prog 5 #[.agg #[.string nm, .int .u32 mx, .int .u32 bs, .int .u32 mn], .int .i64 m, .slice sa n sc] W fun e w' => e = .returned (.bool true) ∧ Kept [] W w' := by
  have hb := fun w => ck_New_bad nm mx bs mn m w h
  have hr := fun w => rf_New_bad nm mx bs mn m w h
  have hbb : ∀ w, (binOp .neq 4 (.bool false) (.bool false)).run Try.prog w = .ok (.bool false) w := fun w => by kernel_rfl
  have hbox : Row (W.alloc (.cells #[.string nm, .int .u32 mx, .int .u32 bs, .int .u32 mn] 24)) W.heap.size 24 [.string nm, .int .u32 mx, .int .u32 bs, .int .u32 mn] := Row.new' rfl
  have hk0 : Kept [] W (W.alloc (.cells #[.string nm, .int .u32 mx, .int .u32 bs, .int .u32 mn] 24)) := (Kept.refl _ _).alloc _
  clear h
  go_enter Try.func5, Try.ntmps5
  go_wp2_with (first | (go_at_call 17; refine (hb _).mono ?_; rintro e w0 ⟨rfl, kk⟩; have hb1 := hbox.kept kk (by simp); have x0 := hb1.cell (i := 0) rfl; have x1 := hb1.cell (i := 1) rfl; have x2 := hb1.cell (i := 2) rfl; have x3 := hb1.cell (i := 3) rfl) | (go_at_call 32; refine (hr _).mono ?_; rintro e w1 ⟨pd, rfl, hpd, hcell, k1⟩) | (go_at_call 33; go_in) | (go_at_call 18; refine (law_alive _).mono ?_; rintro e w2 ⟨rfl, k2⟩))
  go_ret
  exact ⟨rfl, ((hk0.trans kk).trans k1).trans k2⟩

end Go.Proofs.Ytopgfhcgfpceaaa
