/- The walk of package ring: Copy. -/
import Derived.Test.YtopgfhcgfpceaaaRngI
import Derived.Laws.AppendOwnNone
namespace Go.Proofs.Ytopgfhcgfpceaaa
open Go.RowKit

theorem rg_Copy_nil (w : World) : Calls Try.prog 130 #[.pointer none] w fun e w' => e = .returned (.pointer none) ∧ w = w' := by
  go_enter Try.func130, Try.ntmps130
  go_wp2_with (go_at_call 197; refine (rg_alive_nil _).mono ?_; rintro e w' ⟨rfl, rfl⟩)
  go_ret
  exact ⟨rfl, rfl⟩

/-- The copy of a ring. -/
def RgCopied (w : World) (r : Rg) (e : Ending) (w' : World) : Prop := e = .returned (.pointer (some ⟨w.heap.size, 0, none⟩)) ∧ (∃ q', w.heap.size ≤ q' ∧ RgAt w' w.heap.size q' r) ∧ Kept [] w w'

theorem rg_copied {w w1 : World} {r : Rg} {a : Option Addr} {cap : Nat} {v : Value} (hwf : r.wf) (hr : Row w1 w.heap.size 288 (r.rcells a cap)) (hO : w1.ownsRow (w.heap.size + 1) 3 1 v r.cells.length (r.cells.map fun i => .int .i64 i)) (hk : Kept [] w w1) :
    RgCopied w r (.returned (.pointer (some ⟨w.heap.size, 0, none⟩))) (w1.setCell ⟨w.heap.size, 2, none⟩ v) := by
  have hr2 := hr.set 2 v
  have hk2 := hk.setCell (p := ⟨w.heap.size, 2, none⟩) (.inr (Nat.le_refl _)) v
  rcases owns_row hO with ⟨rfl, h1, h2⟩ | ⟨g, cap', tail, rfl, hb, hg, hl, hc, hc2⟩
  · have h3 : r.cells = [] := List.eq_nil_of_length_eq_zero h1
    refine ⟨rfl, ⟨w.heap.size, Nat.le_refl _, ⟨none, 0, [], ?_, .inl h3, by omega, by omega, fun _ => rfl⟩, hwf⟩, hk2⟩
    unfold Rg.rcells at hr2 ⊢
    rw [h1]
    exact hr2
  · refine ⟨rfl, ⟨g, by omega, ⟨_, cap', tail, ?_, .inr ⟨rfl, hg.set_ne (by simp; omega) _, by omega⟩, hc, hc2, by simp⟩, hwf⟩, hk2⟩
    exact hr2

set_option maxRecDepth 20000 in
theorem rg_Copy (w : World) (p q : Nat) (r : Rg) (h : RgAt w p q r) : Calls Try.prog 130 #[.pointer (some ⟨p, 0, none⟩)] w (RgCopied w r) := by
  obtain ⟨i0, hi, hz0, hz1, hz2⟩ := info_parts Try.info3
  have ha := rg_alive w p q r h
  have hwf := h.2
  obtain ⟨⟨a, cap, tail, hx⟩, hw⟩ := h
  have b1 := hw.len; have b2 := hw.room
  have c0 : w.cell? ⟨p, 0, none⟩ = some (.bool true) := hx.1.cell rfl
  have c1 : w.cell? ⟨p, 1, none⟩ = some (.int .i64 r.room) := hx.1.cell rfl
  have c2 : w.cell? ⟨p, 2, none⟩ = some (.slice a r.cells.length cap) := hx.1.cell rfl
  have c3 : w.cell? ⟨p, 3, none⟩ = some (.int .i64 r.from_) := hx.1.cell rfl
  have c4 : w.cell? ⟨p, 4, none⟩ = some (.int .i64 r.n) := hx.1.cell rfl
  have c5 : w.cell? ⟨p, 5, none⟩ = some (.int .i64 r.high) := hx.1.cell rfl
  have hp := hx.1.lt
  have hpd : p ≠ w.heap.size := by omega
  obtain ⟨wA, hwA⟩ : ∃ wA, wA = w.alloc (.cells #[.bool true, .int .i64 r.room, .slice a r.cells.length cap, .int .i64 r.from_, .int .i64 r.n, .int .i64 r.high] 288) := ⟨_, rfl⟩
  have hrA : Row wA w.heap.size 288 (r.rcells a cap) := by rw [hwA]; exact Row.new' rfl
  have hkA : Kept [] w wA := by rw [hwA]; exact (Kept.refl _ _).alloc _
  have hX : RgX wA p q a cap tail r := hx.kept hkA (by simp) (by simp)
  have hR := Lib.hid hX
  have hone : ∀ v ∈ (r.cells.map fun i => Value.int .i64 i), v.oneCell' = true := by intro v hv; obtain ⟨i, _, rfl⟩ := List.mem_map.1 hv; rfl
  clear hX hw
  have fin : ∀ v w1, w1.ownsRow (w.heap.size + 1) 3 1 v r.cells.length (r.cells.map fun i => .int .i64 i) → wA.grownBy w1 none → RgCopied w r (.returned (.pointer (some ⟨w.heap.size, 0, none⟩))) (w1.setCell ⟨w.heap.size, 2, none⟩ v) ∧ Row w1 w.heap.size 288 (r.rcells a cap) := fun v w1 hO hg =>
    have hr1 := hrA.grown hg (by simp)
    ⟨rg_copied hwf hr1 hO (hkA.grown hg (by simp)), hr1⟩
  rcases a with _ | ad
  · have h0 : r.cells = [] ∧ cap = 0 := by
      rcases hR.out.2.1 with h1 | h1
      · exact ⟨h1, hR.out.2.2.2.2 rfl⟩
      · exact absurd h1.1 (by simp)
    obtain ⟨h0, rfl⟩ := h0
    have h00 : r.cells.length = 0 := by rw [h0]; rfl
    rw [h00] at c2
    have hf : RgCopied w r (.returned (.pointer (some ⟨w.heap.size, 0, none⟩))) wA := ⟨rfl, ⟨w.heap.size, Nat.le_refl _, ⟨none, 0, [], hrA, .inl h0, by omega, by omega, fun _ => rfl⟩, hwf⟩, hkA⟩
    rw [hwA, h00] at hf
    have HF := Lib.hid hf
    have hpd' : ¬ w.heap.size = p := Ne.symm hpd
    have hR2 := hR.out.1
    unfold Rg.rcells at hR2
    rw [hwA, h00] at hR2
    have g2 : (w.alloc (.cells #[.bool true, .int .i64 r.room, .slice none 0 0, .int .i64 r.from_, .int .i64 r.n, .int .i64 r.high] 288)).cell? ⟨p, 2, none⟩ = some (.slice none 0 0) := hR2.cell rfl
    clear hx hwA fin hf hR2 h0 h00
    go_enter Try.func130, Try.ntmps130
    go_wp2_with (first | (go_at_call 197; refine ha.mono ?_; rintro e w' ⟨rfl, rfl⟩) | (at_builtin; refine wpList_append_own_none rfl (.const (.slice none 0 0)) (.tmp 13) 35 rfl (w.heap.size + 1) 3 i0 1 Try.underlying35 hi _ 0 [] rfl (World.ownsRow_nil _ _ _ _) rfl ?_))
    go_ret
    exact HF.out
  · have hsrc : ∀ j u, (r.cells.map fun i => Value.int .i64 i)[j]? = some u → wA.cell? (ad.add j) = some u := by
      intro j u hj
      rcases hR.out.2.1 with h1 | ⟨h1, h2, h3⟩
      · rw [h1] at hj; simp at hj
      · injection h1 with h1
        rw [h1, addr_add, Nat.zero_add]
        exact h2.cell (by rw [List.getElem?_append_left (List.getElem?_eq_some_iff.1 hj).1]; exact hj)
    have g2 : wA.cell? ⟨p, 2, none⟩ = some (.slice (some ad) r.cells.length cap) := hR.out.1.cell rfl
    have hlm : (r.cells.map fun i => Value.int .i64 i).length = r.cells.length * 1 := by simp
    subst hwA
    clear hx
    go_enter Try.func130, Try.ntmps130
    go_wp2_with (first | (go_at_call 197; refine ha.mono ?_; rintro e w' ⟨rfl, rfl⟩) | (at_builtin; refine wpList_append_own _ rfl (.const (.slice none 0 0)) (.tmp 13) 35 rfl (w.heap.size + 1) 3 i0 (.int .i64 0) 1 8 Try.underlying35 hi hz0 hz1 hz2 rfl (by decide) _ 0 [] rfl (World.ownsRow_nil _ _ _ _) ad r.cells.length cap (r.cells.map fun i => Value.int .i64 i) rfl hlm hsrc hone (by unfold maxLen; omega) (by omega) (by simp) ?_; intro v' w1 hO hg hnn; have hO' := hO; rw [Nat.zero_add, List.nil_append] at hO'; obtain ⟨va, vcap, rfl, hv1, hv2⟩ := owns_slice hO'; have hf := fin _ w1 hO' hg; have e2 : w1.cell? ⟨w.heap.size, 2, none⟩ = some (.slice (some ad) r.cells.length cap) := hf.2.cell rfl; have f2 := hf.2.free 2; have HF := Lib.hid hf.1; clear hf hO hO' hnn hg))
    go_ret
    exact HF.out
end Go.Proofs.Ytopgfhcgfpceaaa
