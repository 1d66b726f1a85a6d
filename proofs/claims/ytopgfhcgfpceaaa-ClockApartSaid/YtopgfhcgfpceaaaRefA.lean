/- The walks of package tappetref16: the sums; Rel, Abs, Set, Get, Cancel. -/
import Derived.Test.YtopgfhcgfpceaaaRef
namespace Go.Proofs.Ytopgfhcgfpceaaa
open Go.RowKit

theorem rf_within (w : World) (g a : Int) (h0 : 0 ≤ g) (h1 : g ≤ 4294967295) (h2 : 0 ≤ a) (h3 : a ≤ 4294967295) :
    Calls Try.prog 235 #[.int .u32 g, .int .u32 a] w fun e w' => e = .returned (.int .u64 (min a g)) ∧ w = w' := by
  rcases Int.lt_or_le g a with ha | ha
  all_goals
    go_enter Try.func235, Try.ntmps235
    go_wp2
    all_goals go_ret
    all_goals exact ⟨by simp; omega, rfl⟩

theorem rf_until (w : World) (g a b : Int) (h0 : 0 ≤ g) (h1 : g ≤ 4294967295) (h2 : 0 ≤ a) (h3 : a ≤ 4294967295) (h4 : 0 ≤ b) (h5 : b ≤ 4294967295) :
    Calls Try.prog 203 #[.int .u32 g, .int .u32 a, .int .u32 b] w fun e w' => e = .returned (.int .u64 (until_ g a b)) ∧ w = w' := by
  have hw := fun x hx0 hx1 => rf_within w g x h0 h1 hx0 hx1
  have hA := hw a h2 h3
  have hB := hw b h4 h5
  clear hw
  unfold until_
  have ba : 0 ≤ min a g ∧ min a g ≤ 4294967295 := by omega
  have bb : 0 ≤ min b g ∧ min b g ≤ 4294967295 := by omega
  have bc : min a g ≤ g := by omega
  generalize min a g = x at *
  generalize min b g = y at *
  obtain ⟨ba0, ba1⟩ := ba
  obtain ⟨bb0, bb1⟩ := bb
  rcases Int.lt_or_le x y with ha | ha
  all_goals
    go_enter Try.func203, Try.ntmps203
    go_wp2_with (first | (go_at_call 235; with_reducible refine hA.mono ?_; rintro e w' ⟨rfl, rfl⟩) | (go_at_call 235; with_reducible refine hB.mono ?_; rintro e w' ⟨rfl, rfl⟩))
    all_goals go_ret
    all_goals exact ⟨by first | (simp; done) | (simp; omega), rfl⟩

theorem rf_after (w : World) (g a t : Int) (h0 : 0 ≤ g) (h1 : g ≤ 4294967295) (h2 : 0 ≤ a) (h3 : a ≤ 4294967295) (h4 : 0 ≤ t) (h5 : t ≤ 18446744073709551615) :
    Calls Try.prog 236 #[.int .u32 g, .int .u32 a, .int .u64 t] w fun e w' => e = .returned (.int .u32 (after_ g a t)) ∧ ∃ n, w' = w.drewN n := by
  have hA : ∀ n, Calls Try.prog 235 #[.int .u32 g, .int .u32 a] (w.drewN n) fun e w' => e = .returned (.int .u64 (min a g)) ∧ w' = w.drewN n := fun n => (rf_within (w.drewN n) g a h0 h1 h2 h3).mono fun _ _ hh => ⟨hh.1, hh.2.symm⟩
  unfold after_
  have ba : 0 ≤ min a g ∧ min a g ≤ g := by omega
  have bt := emod_bd t (g + 1) (by omega)
  generalize min a g = x at *
  obtain ⟨ba0, ba1⟩ := ba
  obtain ⟨bt0, bt1⟩ := bt
  have bz := emod_bd (x + t % (g + 1)) (g + 1) (by omega)
  obtain ⟨bz0, bz1⟩ := bz
  have hg : ((g + 1 : Int) == 0) = false := by simp; omega
  have key : (x + t) % (g + 1) % 4294967296 = (x + t % (g + 1)) % (g + 1) := by
    rw [Int.add_emod_emod] at bz0 bz1 ⊢
    omega
  go_enter Try.func236, Try.ntmps236
  go_wp2
  go_quiet ((go_at_call 235; exact Calls.quiet_of_same (hA _)))
  go_wp2
  go_ret
  exact ⟨by rw [← key]; rfl, _, rfl⟩

theorem rf_next (w : World) (g a : Int) (h0 : 0 ≤ g) (h1 : g ≤ 4294967295) (h2 : 0 ≤ a) (h3 : a ≤ 4294967295) :
    Calls Try.prog 206 #[.int .u32 g, .int .u32 a] w fun e w' => e = .returned (.int .u32 (after_ g a 1)) ∧ ∃ n, w' = w.drewN n := by
  have hA := rf_after w g a 1 h0 h1 h2 h3 (by omega) (by omega)
  go_enter Try.func206, Try.ntmps206
  go_wp2_with (go_at_call 236; refine hA.mono ?_; rintro e w' ⟨rfl, n, rfl⟩)
  go_ret
  exact ⟨rfl, _, rfl⟩

theorem rf_has (w : World) (p q : Nat) (c : Clk) (n : Int) (h : RefAt w p q c) :
    Calls Try.prog 207 #[.pointer (some ⟨p, 0, none⟩), .int .i64 n] w fun e w' => e = .returned (.bool (c.has n)) ∧ w = w' := by
  obtain ⟨⟨nm, bs, a, cap, tail, hx⟩, hwf⟩ := h
  have h6 := hx.c6
  have hn := hwf.n
  clear hx hwf
  go_enter Try.func207, Try.ntmps207
  go_wp2
  all_goals go_ret
  all_goals exact ⟨by simp [Clk.has, *] <;> omega, rfl⟩

theorem rf_cyc (w : World) (p q : Nat) (c : Clk) (n : Int) (h : RefAt w p q c) :
    Calls Try.prog 202 #[.pointer (some ⟨p, 0, none⟩), .int .u32 n] w fun e w' => e = .returned (.bool (c.cyc n)) ∧ w = w' := by
  obtain ⟨⟨nm, bs, a, cap, tail, hx⟩, hwf⟩ := h
  have h1 := hx.c2
  have h2 := hx.c4
  clear hx hwf
  go_enter Try.func202, Try.ntmps202
  go_wp2
  all_goals go_ret
  all_goals exact ⟨by simp [Clk.cyc, *] <;> omega, rfl⟩

set_option maxRecDepth 20000 in
theorem rf_put (w : World) (p q : Nat) (c : Clk) (n : Int) (fine : Bool) (left k : Int) (h : RefAt w p q c)
    (hfine : fine = true → 1 ≤ left ∧ left ≤ c.most + 1 ∧ 0 ≤ k ∧ k ≤ c.most) :
    Calls Try.prog 201 #[.pointer (some ⟨p, 0, none⟩), .int .i64 n, .bool fine, .int .u64 left, .int .u32 k] w fun e w' => e = .returned (.int .i64 (c.put n fine left k).1) ∧ RefAt w' p q (c.put n fine left k).2 ∧ Kept [q] w w' := by
  have hh := rf_has w p q c n h
  by_cases h1 : c.has n = false
  · rw [h1] at hh
    have e1 : (c.put n fine left k) = (3, c) := by simp [Clk.put, h1]
    rw [e1]
    go_enter Try.func201, Try.ntmps201
    go_wp2_with (go_at_call 207; refine hh.mono ?_; rintro e w' ⟨rfl, rfl⟩)
    go_ret
    exact ⟨rfl, h, Kept.refl _ _⟩
  · have h1' : c.has n = true := by simpa using h1
    rw [h1'] at hh
    have hb : 0 ≤ n ∧ n < c.al.length := by simpa [Clk.has] using h1'
    obtain ⟨hb0, hb1⟩ := hb
    have hlt : n.toNat < c.al.length := by omega
    have hget : c.al[n.toNat]? = some (c.at n) := by simp [Clk.at, hlt]
    have h0 := h
    obtain ⟨⟨nm, bs, a, cap, tail, hx⟩, hwf⟩ := h
    obtain ⟨ha, har, hpq⟩ := hx.on hlt
    subst ha
    have h6 := hx.c6
    have g0 := hx.a0 hget
    have g1 := hx.a1 hget
    have g2 := hx.a2 hget
    have f0 := har.free (n.toNat * 3)
    have f1 := har.free (n.toNat * 3 + 1)
    have f2 := har.free (n.toNat * 3 + 2)
    have hlen := hwf.n
    have hqp : q ≠ p := hpq.symm
    clear hget har
    by_cases h2 : (c.at n).set = true
    · rw [h2] at g0
      have e1 : (c.put n fine left k) = (7, c) := by simp [Clk.put, h1', h2]
      rw [e1]
      have r' : RefAt w p q c ∧ Kept [q] w w := ⟨h0, Kept.refl _ _⟩
      clear h1 h1' e1 h0 hx
      go_enter Try.func201, Try.ntmps201
      go_wp2_with (go_at_call 207; refine hh.mono ?_; rintro e w' ⟨rfl, rfl⟩)
      go_ret
      exact ⟨rfl, r'⟩
    · have h2' : (c.at n).set = false := by simpa using h2
      rw [h2'] at g0
      cases fine with
      | false =>
        have e1 : (c.put n false left k) = (8, c) := by simp [Clk.put, h1', h2']
        rw [e1]
        have r' : RefAt w p q c ∧ Kept [q] w w := ⟨h0, Kept.refl _ _⟩
        clear h1 h1' e1 h0 hx
        go_enter Try.func201, Try.ntmps201
        go_wp2_with (go_at_call 207; refine hh.mono ?_; rintro e w' ⟨rfl, rfl⟩)
        go_ret
        exact ⟨rfl, r'⟩
      | true =>
        have e1 : (c.put n true left k) = (0, { c with al := c.al.set n.toNat ⟨true, left, k⟩ }) := by simp [Clk.put, h1', h2']
        obtain ⟨w1, w2, w3, w4⟩ := hfine rfl
        rw [e1]
        have r' := hx.set3 hlt ⟨true, left, k⟩
        have rw' := Clk.set_wf hwf n.toNat (a := ⟨true, left, k⟩) ⟨by simp; omega, by simpa using w2, by simpa using w3, by simpa using w4, fun _ => by simpa using w1, fun hx => by simp at hx⟩
        have rk : Kept [q] w _ := kept_q (w := w) (q := q) (a := n.toNat * 3) (b := n.toNat * 3 + 1) (u := .bool true) (v := .int .u64 left) (x := .int .u32 k) (n.toNat * 3 + 2) 0
        have rr : RefAt _ p q _ ∧ Kept [q] w _ := ⟨⟨⟨nm, bs, _, cap, tail, r'⟩, rw'⟩, rk⟩
        clear h1 h1' e1 h2 h2' r' rw' rk h0 hx hfine
        go_enter Try.func201, Try.ntmps201
        go_wp2_with (go_at_call 207; refine hh.mono ?_; rintro e w' ⟨rfl, rfl⟩)
        go_ret
        exact ⟨rfl, rr⟩

end Go.Proofs.Ytopgfhcgfpceaaa
