/- The walks of package clock: Rel, Abs, Set; what an alarm tells; the sums. -/
import Derived.Test.YtopgfhcgfpceaaaClkA
namespace Go.Proofs.Ytopgfhcgfpceaaa
open Go.RowKit

theorem cf_rel1 (x y z : Value) (w : World) : (callFunc 86 #[x, y, z]).run Try.prog w = .ok (.enter 86 #[x, y, z]) w := by kernel_rfl
theorem cf_rel2 (x : Value) (w : World) : (callFunc 88 #[x]).run Try.prog w = .ok (.enter 88 #[x]) w := by kernel_rfl
theorem cf_abs1 (x y z : Value) (w : World) : (callFunc 89 #[x, y, z]).run Try.prog w = .ok (.enter 89 #[x, y, z]) w := by kernel_rfl
theorem cf_abs2 (x y : Value) (w : World) : (callFunc 90 #[x, y]).run Try.prog w = .ok (.enter 90 #[x, y]) w := by kernel_rfl
theorem cf_set1 (x y z : Value) (w : World) : (callFunc 204 #[x, y, z]).run Try.prog w = .ok (.enter 204 #[x, y, z]) w := by kernel_rfl
theorem cf_set2 (x : Value) (w : World) : (callFunc 205 #[x]).run Try.prog w = .ok (.enter 205 #[x]) w := by kernel_rfl

/-- The three boxes that Rel, Abs, Set lay. -/
def box3 (w : World) (p : Nat) (t k : Int) : World := ((w.alloc (.cells #[.pointer (some ⟨p, 0, none⟩)] 26)).alloc (.cells #[.int .u32 t] 22)).alloc (.cells #[.int .u32 k] 22)

theorem box3_p (w : World) (p : Nat) (t k : Int) : (box3 w p t k).cell? ⟨w.heap.size, 0, none⟩ = some (.pointer (some ⟨p, 0, none⟩)) := by simp [box3, go_sem]
theorem box3_t (w : World) (p : Nat) (t k : Int) : (box3 w p t k).cell? ⟨w.heap.size + 1, 0, none⟩ = some (.int .u32 t) := by simp [box3, go_sem]
theorem box3_k (w : World) (p : Nat) (t k : Int) : (box3 w p t k).cell? ⟨w.heap.size + 1 + 1, 0, none⟩ = some (.int .u32 k) := by simp [box3, go_sem]
theorem box3_kept (w : World) (p : Nat) (t k : Int) : Kept [] w (box3 w p t k) := (((Kept.refl [] w).alloc _).alloc _).alloc _

theorem until_bd (g a b : Int) (h0 : 0 ≤ g) (h2 : 0 ≤ a) (h4 : 0 ≤ b) : 1 ≤ until_ g a b ∧ until_ g a b ≤ g + 1 := by
  simp only [until_]
  split <;> omega

theorem Clk.cyc_bd {c : Clk} {k : Int} (h : c.wf) (hk : c.cyc k = true) : 0 ≤ k ∧ k ≤ c.most := by
  have := h.m0; have := h.e0; have := h.e1
  simp [Clk.cyc] at hk
  omega

theorem ck_Rel (w : World) (p q : Nat) (c : Clk) (n t k : Int) (h : ClockAt w p q c) (h0 : 0 ≤ t) (h4 : t ≤ 4294967295) :
    Calls Try.prog 19 #[.pointer (some ⟨p, 0, none⟩), .int .i64 n, .int .u32 t, .int .u32 k] w fun e w' => e = .returned (.int .i64 (c.rel n t k).1) ∧ ClockAt w' p q (c.rel n t k).2 ∧ Kept [q] w w' := by
  have hc := h.kept (box3_kept w p t k) (by simp) (by simp)
  have hput := ck_put (box3 w p t k) p q c 86 88 #[.pointer (some ⟨w.heap.size + 1, 0, none⟩), .pointer (some ⟨w.heap.size, 0, none⟩), .pointer (some ⟨w.heap.size + 1 + 1, 0, none⟩)] #[.pointer (some ⟨w.heap.size + 1, 0, none⟩)] n (decide (1 ≤ t) && decide (t ≤ c.most) && c.cyc k) t k hc
    (cf_rel1 _ _ _) (cf_rel2 _)
    (fun m => (ck_rel1 ((box3 w p t k).drewN m) p q c _ _ _ t k hc (box3_t w p t k) (box3_p w p t k) (box3_k w p t k)).mono fun e w' ⟨h1, m', h2⟩ => ⟨h1, m + m', by rw [h2, World.drewN_drewN]⟩)
    (fun _ m => (ck_rel2 ((box3 w p t k).drewN m) _ t h0 h4 (box3_t w p t k)).mono fun e w' ⟨h1, h2⟩ => ⟨h1, m, h2.symm⟩)
    (fun hf => by simp at hf; have := Clk.cyc_bd h.wf hf.2; omega)
    (fun e w' => e = .returned (.int .i64 (c.rel n t k).1) ∧ ClockAt w' p q (c.rel n t k).2 ∧ Kept [q] (box3 w p t k) w')
    (fun w' h1 h2 => ⟨rfl, h1, h2⟩)
  have hk := fun w' (hk : Kept [q] (box3 w p t k) w') => ((box3_kept w p t k).mono (S' := [q]) (by simp)).trans hk
  unfold Fin box3 at hput
  unfold box3 at hk
  clear hc
  go_enter Try.func19, Try.ntmps19
  go_wp2_with (go_at_call 85; refine hput.mono ?_; rintro e w' ⟨rfl, hq1, hq2⟩)
  go_ret
  exact ⟨rfl, hq1, hk _ hq2⟩

theorem ck_Set (w : World) (p q : Nat) (c : Clk) (n t k : Int) (h : ClockAt w p q c) (h0 : 0 ≤ t) (h4 : t ≤ 4294967295) (k0 : 0 ≤ k) :
    Calls Try.prog 112 #[.pointer (some ⟨p, 0, none⟩), .int .i64 n, .int .u32 t, .int .u32 k] w fun e w' => e = .returned (.int .i64 (c.set n t k).1) ∧ ClockAt w' p q (c.set n t k).2 ∧ Kept [q] w w' := by
  have hc := h.kept (box3_kept w p t k) (by simp) (by simp)
  have hput := ck_put (box3 w p t k) p q c 204 205 #[.pointer (some ⟨w.heap.size + 1, 0, none⟩), .pointer (some ⟨w.heap.size, 0, none⟩), .pointer (some ⟨w.heap.size + 1 + 1, 0, none⟩)] #[.pointer (some ⟨w.heap.size + 1, 0, none⟩)] n (decide (1 ≤ t) && decide (t ≤ c.most + 1) && decide (k ≤ c.most)) t k hc
    (cf_set1 _ _ _) (cf_set2 _)
    (fun m => (ck_set1 ((box3 w p t k).drewN m) p q c _ _ _ t k hc h0 h4 (box3_t w p t k) (box3_p w p t k) (box3_k w p t k)).mono fun e w' ⟨h1, m', h2⟩ => ⟨h1, m + m', by rw [h2, World.drewN_drewN]⟩)
    (fun _ m => (ck_set2 ((box3 w p t k).drewN m) _ t h0 h4 (box3_t w p t k)).mono fun e w' ⟨h1, h2⟩ => ⟨h1, m, h2.symm⟩)
    (fun hf => by simp at hf; omega)
    (fun e w' => e = .returned (.int .i64 (c.set n t k).1) ∧ ClockAt w' p q (c.set n t k).2 ∧ Kept [q] (box3 w p t k) w')
    (fun w' h1 h2 => ⟨rfl, h1, h2⟩)
  have hk := fun w' (hk : Kept [q] (box3 w p t k) w') => ((box3_kept w p t k).mono (S' := [q]) (by simp)).trans hk
  unfold Fin box3 at hput
  unfold box3 at hk
  clear hc
  go_enter Try.func112, Try.ntmps112
  go_wp2_with (go_at_call 85; refine hput.mono ?_; rintro e w' ⟨rfl, hq1, hq2⟩)
  go_ret
  exact ⟨rfl, hq1, hk _ hq2⟩

theorem ck_Abs (w : World) (p q : Nat) (c : Clk) (n t k : Int) (h : ClockAt w p q c) (h0 : 0 ≤ t) (h4 : t ≤ 4294967295) :
    Calls Try.prog 20 #[.pointer (some ⟨p, 0, none⟩), .int .i64 n, .int .u32 t, .int .u32 k] w fun e w' => e = .returned (.int .i64 (c.abs n t k).1) ∧ ClockAt w' p q (c.abs n t k).2 ∧ Kept [q] w w' := by
  have hc := h.kept (box3_kept w p t k) (by simp) (by simp)
  have hput := ck_put (box3 w p t k) p q c 89 90 #[.pointer (some ⟨w.heap.size + 1, 0, none⟩), .pointer (some ⟨w.heap.size, 0, none⟩), .pointer (some ⟨w.heap.size + 1 + 1, 0, none⟩)] #[.pointer (some ⟨w.heap.size, 0, none⟩), .pointer (some ⟨w.heap.size + 1, 0, none⟩)] n (decide (t ≤ c.most) && c.cyc k) (until_ c.most c.value t) k hc
    (cf_abs1 _ _ _) (cf_abs2 _ _)
    (fun m => (ck_abs1 ((box3 w p t k).drewN m) p q c _ _ _ t k hc (box3_t w p t k) (box3_p w p t k) (box3_k w p t k)).mono fun e w' ⟨h1, m', h2⟩ => ⟨h1, m + m', by rw [h2, World.drewN_drewN]⟩)
    (fun _ m => (ck_abs2 ((box3 w p t k).drewN m) p q c _ _ t hc h0 h4 (box3_t w p t k) (box3_p w p t k)).mono fun e w' ⟨h1, m', h2⟩ => ⟨h1, m + m', by rw [h2, World.drewN_drewN]⟩)
    (fun hf => by simp at hf; have := Clk.cyc_bd h.wf hf.2; have := until_bd c.most c.value t (by have := h.wf.m0; omega) h.wf.v0 h0; omega)
    (fun e w' => e = .returned (.int .i64 (c.abs n t k).1) ∧ ClockAt w' p q (c.abs n t k).2 ∧ Kept [q] (box3 w p t k) w')
    (fun w' h1 h2 => ⟨rfl, h1, h2⟩)
  have hk := fun w' (hk : Kept [q] (box3 w p t k) w') => ((box3_kept w p t k).mono (S' := [q]) (by simp)).trans hk
  unfold Fin box3 at hput
  unfold box3 at hk
  clear hc
  go_enter Try.func20, Try.ntmps20
  go_wp2_with (go_at_call 85; refine hput.mono ?_; rintro e w' ⟨rfl, hq1, hq2⟩)
  go_ret
  exact ⟨rfl, hq1, hk _ hq2⟩

end Go.Proofs.Ytopgfhcgfpceaaa
