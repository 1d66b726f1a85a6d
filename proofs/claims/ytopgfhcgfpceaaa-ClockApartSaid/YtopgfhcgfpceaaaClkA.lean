/- The walks of package clock: what sets an alarm. -/
import Derived.Test.YtopgfhcgfpceaaaClk
import Derived.Test.YtopgfhcgfpceaaaProg
import Derived.Deep.QuietTactic
import Derived.BigQuiet
import Derived.Deep.RegionHeld3
namespace Go.Proofs.Ytopgfhcgfpceaaa
open Go.RowKit

theorem ck_has (w : World) (p q : Nat) (c : Clk) (n : Int) (h : ClockAt w p q c) :
    Calls Try.prog 194 #[.pointer (some ⟨p, 0, none⟩), .int .i64 n] w fun e w' => e = .returned (.bool (c.has n)) ∧ w = w' := by
  have h0 := h.c0
  have h4 := h.c4
  have hn := h.wf.n
  clear h
  go_enter Try.func194, Try.ntmps194
  go_wp2
  all_goals go_ret
  all_goals exact ⟨by simp [Clk.has, *] <;> omega, rfl⟩

theorem ck_cyc (w : World) (p q : Nat) (c : Clk) (n : Int) (h : ClockAt w p q c) :
    Calls Try.prog 87 #[.pointer (some ⟨p, 0, none⟩), .int .u32 n] w fun e w' => e = .returned (.bool (c.cyc n)) ∧ w = w' := by
  have h1 := h.c1
  have h2 := h.c2
  clear h
  go_enter Try.func87, Try.ntmps87
  go_wp2
  all_goals go_ret
  all_goals exact ⟨by simp [Clk.cyc, *] <;> omega, rfl⟩

/-- The closure that Rel hands to put: may it be? -/
theorem ck_rel1 (w : World) (p q : Nat) (c : Clk) (bt bc bk : Nat) (t k : Int) (h : ClockAt w p q c) (h1 : w.cell? ⟨bt, 0, none⟩ = some (.int .u32 t)) (h2 : w.cell? ⟨bc, 0, none⟩ = some (.pointer (some ⟨p, 0, none⟩))) (h3 : w.cell? ⟨bk, 0, none⟩ = some (.int .u32 k)) :
    Calls Try.prog 86 #[.pointer (some ⟨bt, 0, none⟩), .pointer (some ⟨bc, 0, none⟩), .pointer (some ⟨bk, 0, none⟩)] w fun e w' => e = .returned (.bool (decide (1 ≤ t) && decide (t ≤ c.most) && c.cyc k)) ∧ ∃ n, w' = w.drewN n := by
  have hm := h.c1
  have hl := h.c2
  have hc : ∀ n, Calls Try.prog 87 #[.pointer (some ⟨p, 0, none⟩), .int .u32 k] (w.drewN n) fun e w' => e = .returned (.bool (c.cyc k)) ∧ w' = w.drewN n := fun n => (ck_cyc (w.drewN n) p q c k h).mono fun _ _ hh => ⟨hh.1, hh.2.symm⟩
  clear h
  by_cases ha : 1 ≤ t
  · by_cases hb : t ≤ c.most
    · go_enter Try.func86, Try.ntmps86
      go_wp2
      go_quiet ((go_at_call 87; exact Calls.quiet_of_same (hc _)))
      go_wp2
      go_ret
      exact ⟨by simp [*], _, rfl⟩
    · have hd : decide (t ≤ c.most) = false := by simpa using hb
      go_enter Try.func86, Try.ntmps86
      go_wp2
      go_quiet (fail)
      go_wp2
      go_ret
      exact ⟨by simp [*], _, rfl⟩
  · have hd : decide (1 ≤ t) = false := by simpa using ha
    go_enter Try.func86, Try.ntmps86
    go_wp2
    go_quiet (fail)
    go_wp2
    go_ret
    exact ⟨by simp [*], _, rfl⟩


theorem ck_rel2 (w : World) (bt : Nat) (t : Int) (h0 : 0 ≤ t) (h4 : t ≤ 4294967295) (h1 : w.cell? ⟨bt, 0, none⟩ = some (.int .u32 t)) :
    Calls Try.prog 88 #[.pointer (some ⟨bt, 0, none⟩)] w fun e w' => e = .returned (.int .u64 t) ∧ w = w' := by
  go_enter Try.func88, Try.ntmps88
  go_wp2
  go_ret
  exact ⟨rfl, rfl⟩

theorem ck_set2 (w : World) (bt : Nat) (t : Int) (h0 : 0 ≤ t) (h4 : t ≤ 4294967295) (h1 : w.cell? ⟨bt, 0, none⟩ = some (.int .u32 t)) :
    Calls Try.prog 205 #[.pointer (some ⟨bt, 0, none⟩)] w fun e w' => e = .returned (.int .u64 t) ∧ w = w' := by
  go_enter Try.func205, Try.ntmps205
  go_wp2
  go_ret
  exact ⟨rfl, rfl⟩

theorem ck_until (w : World) (g a b : Int) (h0 : 0 ≤ g) (h1 : g ≤ 4294967295) (h2 : 0 ≤ a) (h3 : a ≤ 4294967295) (h4 : 0 ≤ b) (h5 : b ≤ 4294967295) :
    Calls Try.prog 91 #[.int .u32 g, .int .u32 a, .int .u32 b] w fun e w' => e = .returned (.int .u64 (until_ g a b)) ∧ w = w' := by
  rcases Int.lt_or_le g a with ha | ha <;> rcases Int.lt_or_le g b with hb | hb
  all_goals
    go_enter Try.func91, Try.ntmps91
    go_wp2
    all_goals go_ret
    all_goals exact ⟨by simp [until_]; omega, rfl⟩

/-- The closure that Abs hands to put: may it be? -/
theorem ck_abs1 (w : World) (p q : Nat) (c : Clk) (bt bc bk : Nat) (t k : Int) (h : ClockAt w p q c) (h1 : w.cell? ⟨bt, 0, none⟩ = some (.int .u32 t)) (h2 : w.cell? ⟨bc, 0, none⟩ = some (.pointer (some ⟨p, 0, none⟩))) (h3 : w.cell? ⟨bk, 0, none⟩ = some (.int .u32 k)) :
    Calls Try.prog 89 #[.pointer (some ⟨bt, 0, none⟩), .pointer (some ⟨bc, 0, none⟩), .pointer (some ⟨bk, 0, none⟩)] w fun e w' => e = .returned (.bool (decide (t ≤ c.most) && c.cyc k)) ∧ ∃ n, w' = w.drewN n := by
  have hm := h.c1
  have hl := h.c2
  have hc : ∀ n, Calls Try.prog 87 #[.pointer (some ⟨p, 0, none⟩), .int .u32 k] (w.drewN n) fun e w' => e = .returned (.bool (c.cyc k)) ∧ w' = w.drewN n := fun n => (ck_cyc (w.drewN n) p q c k h).mono fun _ _ hh => ⟨hh.1, hh.2.symm⟩
  clear h
  by_cases hb : t ≤ c.most
  · go_enter Try.func89, Try.ntmps89
    go_wp2
    go_quiet ((go_at_call 87; exact Calls.quiet_of_same (hc _)))
    go_wp2
    go_ret
    exact ⟨by simp [*], _, rfl⟩
  · have hd : decide (t ≤ c.most) = false := by simpa using hb
    go_enter Try.func89, Try.ntmps89
    go_wp2
    go_quiet (fail)
    go_wp2
    go_ret
    exact ⟨by simp [*], _, rfl⟩

theorem ck_abs2 (w : World) (p q : Nat) (c : Clk) (bt bc : Nat) (t : Int) (h : ClockAt w p q c) (h0 : 0 ≤ t) (h4 : t ≤ 4294967295) (h1 : w.cell? ⟨bt, 0, none⟩ = some (.int .u32 t)) (h2 : w.cell? ⟨bc, 0, none⟩ = some (.pointer (some ⟨p, 0, none⟩))) :
    Calls Try.prog 90 #[.pointer (some ⟨bc, 0, none⟩), .pointer (some ⟨bt, 0, none⟩)] w fun e w' => e = .returned (.int .u64 (until_ c.most c.value t)) ∧ ∃ n, w' = w.drewN n := by
  have hm := h.c1
  have hv := h.c3
  have hf := h.wf
  have hu : ∀ n, Calls Try.prog 91 #[.int .u32 c.most, .int .u32 c.value, .int .u32 t] (w.drewN n) fun e w' => e = .returned (.int .u64 (until_ c.most c.value t)) ∧ w' = w.drewN n :=
    fun n => (ck_until (w.drewN n) c.most c.value t (by have := hf.m0; omega) (by have := hf.m1; omega) hf.v0 (by have := hf.v1; have := hf.m1; omega) h0 h4).mono fun _ _ hh => ⟨hh.1, hh.2.symm⟩
  clear h hf
  go_enter Try.func90, Try.ntmps90
  go_wp2
  go_quiet ((go_at_call 91; exact Calls.quiet_of_same (hu _)))
  go_wp2
  go_ret
  exact ⟨rfl, _, rfl⟩

/-- The closure that Set hands to put: may it be? -/
theorem ck_set1 (w : World) (p q : Nat) (c : Clk) (bt bc bk : Nat) (t k : Int) (h : ClockAt w p q c) (h0 : 0 ≤ t) (h4 : t ≤ 4294967295) (h1 : w.cell? ⟨bt, 0, none⟩ = some (.int .u32 t)) (h2 : w.cell? ⟨bc, 0, none⟩ = some (.pointer (some ⟨p, 0, none⟩))) (h3 : w.cell? ⟨bk, 0, none⟩ = some (.int .u32 k)) :
    Calls Try.prog 204 #[.pointer (some ⟨bt, 0, none⟩), .pointer (some ⟨bc, 0, none⟩), .pointer (some ⟨bk, 0, none⟩)] w fun e w' => e = .returned (.bool (decide (1 ≤ t) && decide (t ≤ c.most + 1) && decide (k ≤ c.most))) ∧ ∃ n, w' = w.drewN n := by
  have hm := h.c1
  have hl := h.c2
  have m0 := h.wf.m0
  have m1 := h.wf.m1
  clear h
  by_cases ha : 1 ≤ t
  · by_cases hb : t ≤ c.most + 1
    · go_enter Try.func204, Try.ntmps204
      go_wp2
      go_quiet (fail)
      go_wp2
      go_ret
      exact ⟨by simp [*], _, rfl⟩
    · have hd : decide (t ≤ c.most + 1) = false := by simpa using hb
      go_enter Try.func204, Try.ntmps204
      go_wp2
      go_quiet (fail)
      go_wp2
      go_ret
      exact ⟨by simp [*], _, rfl⟩
  · have hd : decide (1 ≤ t) = false := by simpa using ha
    go_enter Try.func204, Try.ntmps204
    go_wp2
    go_quiet (fail)
    go_wp2
    go_ret
    exact ⟨by simp [*], _, rfl⟩

set_option maxRecDepth 20000 in
/-- put, whatever is handed in. -/
theorem ck_put (w : World) (p q : Nat) (c : Clk) (fR fL : FuncId) (cR cL : Array Value) (n : Int) (fine : Bool) (left k : Int) (h : ClockAt w p q c)
    (cfR : ∀ w, (callFunc fR cR).run Try.prog w = .ok (.enter fR cR) w) (cfL : ∀ w, (callFunc fL cL).run Try.prog w = .ok (.enter fL cL) w)
    (hR : ∀ n, Calls Try.prog fR cR (w.drewN n) fun e w' => e = .returned (.bool fine) ∧ ∃ m, w' = w.drewN m)
    (hL : fine = true → ∀ n, Calls Try.prog fL cL (w.drewN n) fun e w' => e = .returned (.int .u64 left) ∧ ∃ m, w' = w.drewN m)
    (hfine : fine = true → 1 ≤ left ∧ left ≤ c.most + 1 ∧ 0 ≤ k ∧ k ≤ c.most)
    (R : Ending → World → Prop)
    (r : ∀ w', ClockAt w' p q (c.put n fine left k).2 → Kept [q] w w' → R (.returned (.int .i64 (c.put n fine left k).1)) w') :
    Calls Try.prog 85 #[.pointer (some ⟨p, 0, none⟩), .int .i64 n, .func (.func fR) #[] cR, .func (.func fL) #[] cL, .int .u32 k] w (Fin R) := by
  have hh := ck_has w p q c n h
  have h4 := h.c4
  by_cases h1 : c.has n = false
  · rw [h1] at hh
    have e1 : (c.put n fine left k) = (3, c) := by simp [Clk.put, h1]
    rw [e1] at r
    have r' := r w h (Kept.refl _ _)
    clear r
    go_enter Try.func85, Try.ntmps85
    go_wp2_with (go_at_call 194; refine hh.mono ?_; rintro e w' ⟨rfl, rfl⟩)
    go_ret
    exact r'
  · have h1' : c.has n = true := by simpa using h1
    rw [h1'] at hh
    have hb : 0 ≤ n ∧ n < c.al.length := by simpa [Clk.has] using h1'
    obtain ⟨hb0, hb1⟩ := hb
    have hlt : n.toNat < c.al.length := by omega
    have hget : c.al[n.toNat]? = some (c.at n) := by simp [Clk.at, hlt]
    have g0 := h.a0 hget
    have g1 := h.a1 hget
    have g2 := h.a2 hget
    have f0 := h.arow.free (n.toNat * 3)
    have f1 := h.arow.free (n.toNat * 3 + 1)
    have f2 := h.arow.free (n.toNat * 3 + 2)
    have hlen := h.wf.n
    have hpq : p ≠ q := h.ne
    have hqp : q ≠ p := h.ne.symm
    clear hget
    by_cases h2 : (c.at n).set = true
    · rw [h2] at g0
      have e1 : (c.put n fine left k) = (7, c) := by simp [Clk.put, h1', h2]
      rw [e1] at r
      have r' := r w h (Kept.refl _ _)
      clear r h1 h1' e1
      go_enter Try.func85, Try.ntmps85
      go_wp2_with (go_at_call 194; refine hh.mono ?_; rintro e w' ⟨rfl, rfl⟩)
      go_ret
      exact r'
    · have h2' : (c.at n).set = false := by simpa using h2
      rw [h2'] at g0
      cases fine with
      | false =>
        have e1 : (c.put n false left k) = (8, c) := by simp [Clk.put, h1', h2']
        rw [e1] at r
        have hR' : Calls Try.prog fR cR w fun e w' => e = .returned (.bool _) ∧ ∃ m, w' = w.drewN m := hR 0
        clear h1 h1' e1 h2 h2' hL hR hfine
        go_enter Try.func85, Try.ntmps85
        go_wp2_with (first | (go_at_call 194; refine hh.mono ?_; rintro e w' ⟨rfl, rfl⟩) | (with_reducible refine hR'.mono ?_; rintro e w' ⟨rfl, m, rfl⟩))
        go_ret
        exact r _ h ⟨rfl, rfl, rfl, Nat.le_refl _, fun _ _ _ => rfl⟩
      | true =>
        have e1 : (c.put n true left k) = (0, { c with al := c.al.set n.toNat ⟨true, left, k⟩ }) := by simp [Clk.put, h1', h2']
        obtain ⟨w1, w2, w3, w4⟩ := hfine rfl
        rw [e1] at r
        have r' := fun m => r _ ((h.drewN m).set3 hlt ⟨true, left, k⟩ ⟨by simp; omega, by simpa using w2, by simpa using w3, by simpa using w4, fun _ => by simpa using w1, fun hx => by simp at hx⟩) (kept_q _ m)
        have hR' : Calls Try.prog fR cR w fun e w' => e = .returned (.bool _) ∧ ∃ m, w' = w.drewN m := hR 0
        have hL' := hL rfl
        clear h1 h1' e1 h2 h2' r hL hR hfine
        go_enter Try.func85, Try.ntmps85
        go_wp2_with (first | (go_at_call 194; refine hh.mono ?_; rintro e w' ⟨rfl, rfl⟩) | (with_reducible refine hR'.mono ?_; rintro e w' ⟨rfl, m, rfl⟩))
        go_region_held3 (fun w' => w'.cell? ⟨p, 4, none⟩ = some (.slice (some ⟨q, 0, none⟩) c.al.length c.al.length)) (go_keep) ((first | (with_reducible refine (hL' _).mono ?_; rintro e w' ⟨rfl, m2, rfl⟩)))
        go_wp2
        go_ret
        exact r' _
end Go.Proofs.Ytopgfhcgfpceaaa
