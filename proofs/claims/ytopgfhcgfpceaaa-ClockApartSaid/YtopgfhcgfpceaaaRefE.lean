/- The walk of package tappetref16: Copy. -/
import Derived.Test.YtopgfhcgfpceaaaRefD
import Derived.Laws.AppendOwnNone
import Derived.Deep.RegionLaw
namespace Go.Proofs.Ytopgfhcgfpceaaa
open Go.RowKit

theorem wp_append_none {P : Program} {w : World} {o : Oper} {a : Act} {K : Act → World → Prop} {Q : Exit → Act → World → Prop} (s x : Operand) (t : TypeId)
    (ho : o.op = .call { callee := .builtin .append, args := #[s, x], argTypes := #[t, t] })
    (base : Nat) (e : TypeId) (i : TypeInfo) (size : Nat) (ht : P.underlying t = some (.slice e)) (hi : P.info? e = some i)
    (v : Value) (n : Nat) (xs : List Value) (hs : a.eval s = v) (hown : w.ownsRow base e size v n xs) (hx : a.eval x = .slice none 0 0)
    (h : K (a.put o.dst v) w) : o.wp P a w K Q := by
  have hrun := run_append_owned_none (P := P) (w := w) base t o.type e i size ht hi v n xs hown
  unfold Oper.wp
  simp [execOp, ho, resolve, invoke, builtin, hs, hx, hrun, Result.andThen]
  exact h

set_option maxRecDepth 20000 in
theorem rf_Copy (w : World) (p q : Nat) (c : Clk) (h : RefAt w p q c) :
    Calls Try.prog 36 #[.pointer (some ⟨p, 0, none⟩)] w fun e w' => ∃ p' q', e = .returned (.pointer (some ⟨p', 0, none⟩)) ∧ w.heap.size ≤ p' ∧ w.heap.size ≤ q' ∧ RefAt w' p' q' c ∧ Kept [] w w' := by
  obtain ⟨i0, hi, hz0, hz1, hz2⟩ := info_parts Try.info212
  obtain ⟨⟨nm, bs, a, cap, tail, hx⟩, hf⟩ := h
  have hn := hf.n
  have c0 := hx.c0
  have c1 := hx.c1
  have c2 := hx.c2
  have c3 := hx.c3
  have c4 := hx.c4
  have c5 := hx.c5
  have c6 := hx.c6
  have hp := hx.row.lt
  obtain ⟨wA, hwA⟩ : ∃ wA, wA = (w.alloc (.cells #[.bool true, .string nm, .int .u32 c.most, .int .u32 bs, .int .u32 c.least, .int .u32 c.value, .slice none 0 0] 73)).drew.drew := ⟨_, rfl⟩
  have hl : (c.al.flatMap Alm.enc).length = c.al.length * 3 := flat_length Alm.enc_length _
  have hone := oneCell_flat Alm.oneCell c.al
  have fin : ∀ v w1, w1.ownsRow (w.heap.size + 1) 212 3 v c.al.length (c.al.flatMap Alm.enc) → wA.grownBy w1 none → (∃ p' q', Ending.returned (.pointer (some ⟨w.heap.size, 0, none⟩)) = .returned (.pointer (some ⟨p', 0, none⟩)) ∧ w.heap.size ≤ p' ∧ w.heap.size ≤ q' ∧ RefAt (w1.setCell ⟨w.heap.size, 6, none⟩ v) p' q' c ∧ Kept [] w (w1.setCell ⟨w.heap.size, 6, none⟩ v)) ∧ Row w1 w.heap.size 73 [.bool true, .string nm, .int .u32 c.most, .int .u32 bs, .int .u32 c.least, .int .u32 c.value, .slice none 0 0] := by
    intro v w1 hO hg
    have hrow : Row wA w.heap.size 73 [.bool true, .string nm, .int .u32 c.most, .int .u32 bs, .int .u32 c.least, .int .u32 c.value, .slice none 0 0] := by
      rw [hwA]
      exact Row.drew (Row.drew (Row.new' rfl))
    have hrow1 := hrow.grown hg (by simp)
    have hk : Kept [] w w1 := Kept.grown (b := wA) (r := none) (by rw [hwA]; exact ((Kept.refl [] w).alloc _).drew.drew) hg (fun k hk => by cases hk)
    have hO2 := ownsRow_setCell_below (a := ⟨w.heap.size, 6, none⟩) hO (Nat.lt_succ_self _) v
    have := ref_of_owns (p := w.heap.size) hO2 (Nat.lt_succ_self _) (hrow1.set 6 v) rfl hf
    exact ⟨⟨w.heap.size, _, rfl, by omega, by omega, this.1, hk.setCell (.inr (Nat.le_refl _)) v⟩, hrow1⟩
  have hcases : (c.al = [] ∧ a = none ∧ cap = 0) ∨ ∃ ad, a = some ad ∧ ∀ j u, (c.al.flatMap Alm.enc)[j]? = some u → wA.cell? (ad.add j) = some u := by
    rcases a with _ | ad
    · rcases hx.2.1 with h1 | h1
      · exact .inl ⟨h1, rfl, hx.2.2.2.2 rfl⟩
      · exact absurd h1.1 (by simp)
    · refine .inr ⟨ad, rfl, fun j u hj => ?_⟩
      rcases hx.2.1 with h1 | ⟨h1, h2, h3⟩
      · rw [h1] at hj; simp at hj
      · injection h1 with h1
        subst h1
        have hr := Row.alloc (o := .cells #[.bool true, .string nm, .int .u32 c.most, .int .u32 bs, .int .u32 c.least, .int .u32 c.value, .slice none 0 0] 73) h2
        have hr := Row.drew (Row.drew hr)
        rw [← hwA] at hr
        rw [show (⟨q, 0, none⟩ : Addr).add j = ⟨q, j, none⟩ by unfold Addr.add; split <;> simp_all]
        exact hr.cell (by rw [List.getElem?_append_left (List.getElem?_eq_some_iff.1 hj).1]; exact hj)
  have hrp := Row.alloc (o := .cells #[.bool true, .string nm, .int .u32 c.most, .int .u32 bs, .int .u32 c.least, .int .u32 c.value, .slice none 0 0] 73) hx.row
  have hrp := Row.drew (Row.drew hrp)
  rw [← hwA] at hrp
  clear hx
  have hpd : p ≠ w.heap.size := by omega
  have hdp : w.heap.size ≠ p := Ne.symm hpd
  have g6 : ∀ w1, wA.grownBy w1 none → w1.cell? ⟨p, 6, none⟩ = some (.slice a c.al.length cap) := fun w1 hg => (hrp.grown hg (by simp)).cell rfl
  have fin0 : c.al = [] → ∃ p' q', Ending.returned (.pointer (some ⟨w.heap.size, 0, none⟩)) = .returned (.pointer (some ⟨p', 0, none⟩)) ∧ w.heap.size ≤ p' ∧ w.heap.size ≤ q' ∧ RefAt wA p' q' c ∧ Kept [] w wA := by
    intro h1
    have hrow : Row wA w.heap.size 73 [.bool true, .string nm, .int .u32 c.most, .int .u32 bs, .int .u32 c.least, .int .u32 c.value, .slice none 0 0] := by
      rw [hwA]
      exact Row.drew (Row.drew (Row.new' rfl))
    have hO : wA.ownsRow (w.heap.size + 1) 212 3 (.slice none 0 0) c.al.length (c.al.flatMap Alm.enc) := by
      rw [h1]
      exact World.ownsRow_nil _ _ _ _
    have := ref_of_owns (p := w.heap.size) hO (Nat.lt_succ_self _) hrow rfl hf
    exact ⟨w.heap.size, _, rfl, by omega, by omega, this.1, by rw [hwA]; exact ((Kept.refl [] w).alloc _).drew.drew⟩
  rcases hcases with ⟨h1, rfl, rfl⟩ | ⟨ad, rfl, hsrc⟩
  · subst hwA
    have fin0 := fin0 h1
    clear fin hrp
    have e0 : c.al.length = 0 := by rw [h1]; rfl
    rw [e0] at c6 g6
    go_enter Try.func36, Try.ntmps36
    go_wp2
    refine still_tail 13 (by kernel_rfl) (by kernel_rfl) ?_
    simp only [List.take_succ_cons, List.take_zero, List.drop_succ_cons, List.drop_zero]
    repeat still_step
    refine wpStill_nil ?_
    go_wp2
    clear c0 c1 c2 c3 c4 c5
    go_region_law ((first | (rw [if_pos (by rfl)]; refine (wp_append_none (.tmp 22) (.tmp 26) 71 rfl (w.heap.size + 1) 212 i0 3 Try.underlying71 hi _ 0 [] rfl (World.ownsRow_nil _ _ _ _) rfl ?_))))
    all_goals go_wp2
    all_goals go_ret
    all_goals exact fin0
  · subst hwA
    go_enter Try.func36, Try.ntmps36
    go_wp2
    refine still_tail 13 (by kernel_rfl) (by kernel_rfl) ?_
    simp only [List.take_succ_cons, List.take_zero, List.drop_succ_cons, List.drop_zero]
    repeat still_step
    refine wpStill_nil ?_
    go_wp2
    clear c0 c1 c2 c3 c4 c5
    go_region_law ((first | (rw [if_pos (by rfl)]; refine (wp_append_own _ (.tmp 22) (.tmp 26) 71 rfl (w.heap.size + 1) 212 i0 _ 3 24 Try.underlying71 hi hz0 hz1 hz2 rfl (by decide) _ 0 [] rfl (World.ownsRow_nil _ _ _ _) ad c.al.length cap (c.al.flatMap Alm.enc) rfl hl hsrc hone (by unfold maxLen; omega) (by omega) (by simp) ?_); intro v' w1 hO hg hnn; have hO' := hO; rw [Nat.zero_add, List.nil_append] at hO'; obtain ⟨va, vcap, rfl, hv1, hv2⟩ := owns_slice hO'; have hf := fin _ w1 hO' hg; have e6 : w1.cell? ⟨w.heap.size, 6, none⟩ = some (.slice none 0 0) := hf.2.cell rfl; have f6 := hf.2.free 6; have q6 := g6 w1 hg)))
    all_goals go_wp2
    all_goals go_ret
    all_goals exact hf.1
end Go.Proofs.Ytopgfhcgfpceaaa
