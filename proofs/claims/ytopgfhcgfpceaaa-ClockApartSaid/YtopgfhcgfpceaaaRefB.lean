/- The walks of package tappetref16: Rel, Abs, Set, Get, Cancel. -/
import Derived.Test.YtopgfhcgfpceaaaRefA
import Derived.Test.YtopgfhcgfpceaaaOps
namespace Go.Proofs.Ytopgfhcgfpceaaa
open Go.RowKit

set_option maxRecDepth 20000 in
theorem rf_Rel (w : World) (p q : Nat) (c : Clk) (n t k : Int) (h : RefAt w p q c) (h0 : 0 ≤ t) (h4 : t ≤ 4294967295) :
    Calls Try.prog 110 #[.pointer (some ⟨p, 0, none⟩), .int .i64 n, .int .u32 t, .int .u32 k] w fun e w' => e = .returned (.int .i64 (c.rel n t k).1) ∧ RefAt w' p q (c.rel n t k).2 ∧ Kept [q] w w' := by
  have hput : ∀ fine, fine = (decide (1 ≤ t) && decide (t ≤ c.most) && c.cyc k) → Calls Try.prog 201 #[.pointer (some ⟨p, 0, none⟩), .int .i64 n, .bool fine, .int .u64 t, .int .u32 k] w fun e w' => e = .returned (.int .i64 (c.rel n t k).1) ∧ RefAt w' p q (c.rel n t k).2 ∧ Kept [q] w w' := by
    intro fine hf
    subst hf
    exact rf_put w p q c n _ t k h (fun hf => by simp at hf; have := Clk.cyc_bd h.wf hf.2; omega)
  have hcyc := rf_cyc w p q c k h
  obtain ⟨⟨nm, bs, a, cap, tail, hx⟩, hwf⟩ := h
  have h2 := hx.c2
  clear hx hwf
  by_cases ha : 1 ≤ t
  · by_cases hb : t ≤ c.most
    · go_enter Try.func110, Try.ntmps110
      go_wp2_with (first | (go_at_call 202; with_reducible refine hcyc.mono ?_; rintro e w' ⟨rfl, rfl⟩) | (go_at_call 201; refine (hput _ (by simp [*])).mono ?_; rintro e w' ⟨rfl, h3, h4⟩))
      go_ret
      exact ⟨rfl, h3, h4⟩
    · go_enter Try.func110, Try.ntmps110
      go_wp2_with (first | (go_at_call 201; refine (hput _ (by simp [*])).mono ?_; rintro e w' ⟨rfl, h3, h4⟩))
      go_ret
      exact ⟨rfl, h3, h4⟩
  · go_enter Try.func110, Try.ntmps110
    go_wp2_with (first | (go_at_call 201; refine (hput _ (by simp [*])).mono ?_; rintro e w' ⟨rfl, h3, h4⟩))
    go_ret
    exact ⟨rfl, h3, h4⟩

set_option maxRecDepth 20000 in
theorem rf_Set (w : World) (p q : Nat) (c : Clk) (n t k : Int) (h : RefAt w p q c) (h0 : 0 ≤ t) (h4 : t ≤ 4294967295) (k0 : 0 ≤ k) :
    Calls Try.prog 113 #[.pointer (some ⟨p, 0, none⟩), .int .i64 n, .int .u32 t, .int .u32 k] w fun e w' => e = .returned (.int .i64 (c.set n t k).1) ∧ RefAt w' p q (c.set n t k).2 ∧ Kept [q] w w' := by
  have hput : ∀ fine, fine = (decide (1 ≤ t) && decide (t ≤ c.most + 1) && decide (k ≤ c.most)) → Calls Try.prog 201 #[.pointer (some ⟨p, 0, none⟩), .int .i64 n, .bool fine, .int .u64 t, .int .u32 k] w fun e w' => e = .returned (.int .i64 (c.set n t k).1) ∧ RefAt w' p q (c.set n t k).2 ∧ Kept [q] w w' := by
    intro fine hf
    subst hf
    exact rf_put w p q c n _ t k h (fun hf => by simp at hf; omega)
  have m0 := h.wf.m0
  have m1 := h.wf.m1
  obtain ⟨⟨nm, bs, a, cap, tail, hx⟩, hwf⟩ := h
  have h2 := hx.c2
  clear hx hwf
  by_cases ha : 1 ≤ t
  · by_cases hb : t ≤ c.most + 1
    · go_enter Try.func113, Try.ntmps113
      go_wp2_with (first | (go_at_call 201; refine (hput _ (by simp [*])).mono ?_; rintro e w' ⟨rfl, h3, h4⟩))
      go_ret
      exact ⟨rfl, h3, h4⟩
    · go_enter Try.func113, Try.ntmps113
      go_wp2_with (first | (go_at_call 201; refine (hput _ (by simp [*])).mono ?_; rintro e w' ⟨rfl, h3, h4⟩))
      go_ret
      exact ⟨rfl, h3, h4⟩
  · go_enter Try.func113, Try.ntmps113
    go_wp2_with (first | (go_at_call 201; refine (hput _ (by simp [*])).mono ?_; rintro e w' ⟨rfl, h3, h4⟩))
    go_ret
    exact ⟨rfl, h3, h4⟩

set_option maxRecDepth 20000 in
theorem rf_Abs (w : World) (p q : Nat) (c : Clk) (n t k : Int) (h : RefAt w p q c) (h0 : 0 ≤ t) (h4 : t ≤ 4294967295) :
    Calls Try.prog 111 #[.pointer (some ⟨p, 0, none⟩), .int .i64 n, .int .u32 t, .int .u32 k] w fun e w' => e = .returned (.int .i64 (c.abs n t k).1) ∧ RefAt w' p q (c.abs n t k).2 ∧ Kept [q] w w' := by
  have hput : ∀ m fine, fine = (decide (t ≤ c.most) && c.cyc k) → Calls Try.prog 201 #[.pointer (some ⟨p, 0, none⟩), .int .i64 n, .bool fine, .int .u64 (until_ c.most c.value t), .int .u32 k] (w.drewN m) fun e w' => e = .returned (.int .i64 (c.abs n t k).1) ∧ RefAt w' p q (c.abs n t k).2 ∧ Kept [q] w w' := by
    intro m fine hf
    subst hf
    refine (rf_put (w.drewN m) p q c n _ (until_ c.most c.value t) k h (fun hf => by simp at hf; have := Clk.cyc_bd h.wf hf.2; have := until_bd c.most c.value t (by have := h.wf.m0; omega) h.wf.v0 h0; omega)).mono ?_
    rintro e w' ⟨h1, h2, h3⟩
    exact ⟨h1, h2, (Kept.mk rfl rfl rfl (Nat.le_refl _) (fun _ _ _ => rfl) : Kept [q] w (w.drewN m)).trans h3⟩
  have hcyc := (rf_cyc w.drew p q c k h).mono (R' := fun e w'' => e = .returned (.bool (c.cyc k)) ∧ w'' = w.drew) fun _ _ hh => ⟨hh.1, hh.2.symm⟩
  have hf := h.wf
  have hu := (rf_until w.drew c.most c.value t (by have := hf.m0; omega) (by have := hf.m1; omega) hf.v0 (by have := hf.v1; have := hf.m1; omega) h0 h4).mono (R' := fun e w'' => e = .returned (.int .u64 (until_ c.most c.value t)) ∧ w'' = w.drew) fun _ _ hh => ⟨hh.1, hh.2.symm⟩
  obtain ⟨⟨nm, bs, a, cap, tail, hx⟩, hwf⟩ := h
  have h2 := hx.c2
  have h5 := hx.c5
  clear hx hwf hf
  generalize until_ c.most c.value t = u at *
  by_cases hb : t ≤ c.most
  · go_enter Try.func111, Try.ntmps111
    go_wp2
    refine still_tail 26 (by kernel_rfl) (by kernel_rfl) ?_
    simp only [List.take_succ_cons, List.take_zero, List.drop_succ_cons, List.drop_zero]
    repeat still_step
    still_call hcyc
    repeat still_step
    still_call hu
    repeat still_step
    refine wpStill_nil ?_
    go_wp2_with (first | (go_at_call 201; refine (hput 1 _ (by simp [*])).mono ?_; rintro e w' ⟨rfl, h3, h4⟩))
    go_ret
    exact ⟨rfl, h3, h4⟩
  · have hd : decide (t ≤ c.most) = false := by simpa using hb
    go_enter Try.func111, Try.ntmps111
    go_wp2
    refine still_tail 26 (by kernel_rfl) (by kernel_rfl) ?_
    simp only [List.take_succ_cons, List.take_zero, List.drop_succ_cons, List.drop_zero]
    repeat still_step
    still_call hu
    repeat still_step
    refine wpStill_nil ?_
    go_wp2_with (first | (go_at_call 201; refine (hput 1 _ (by simp [*])).mono ?_; rintro e w' ⟨rfl, h3, h4⟩))
    go_ret
    exact ⟨rfl, h3, h4⟩

end Go.Proofs.Ytopgfhcgfpceaaa
