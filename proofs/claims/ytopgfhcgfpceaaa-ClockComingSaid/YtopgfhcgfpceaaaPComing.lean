/- For every counter, every script and every bound: the law ClockComing returns true, and its input reads as it did. -/
import Derived.Test.YtopgfhcgfpceaaaRows
import Derived.Test.YtopgfhcgfpceaaaClkM
import Derived.Test.YtopgfhcgfpceaaaOpn
namespace Go.Proofs.Ytopgfhcgfpceaaa
open Go.ChangeShapes Go.WideShapes Go.ChangeAt Go.RowKit

set_option maxRecDepth 100000 in
theorem clockComing_lifted (os : Os) (started : os.Started) (H : Type) (enc : TypeId × Value → H) :
    ReturnsInHanded {} Try.checked os 3 .any (Rows.clockComingSpec.pre6 enc Try.prog Try.f3 Rows.clockComingRow.domain false) (Rows.clockComingSpec.post enc Try.prog Try.f3 false true false false) := by
  refine returnsInHanded_of_change (C := Try.checked) own_knob started (by kernel_rfl) Try.func3
    (ChangeSpec.witness6 (enc := enc) (C := Try.checked) false ⟨#[], #[.agg #[.string ByteArray.empty, .int .u32 0, .int .u32 0, .int .u32 0], .slice none 0 0, .int .u8 0], []⟩ 8 (by kernel_rfl) (by kernel_rfl) (by kernel_rfl) (by kernel_rfl)) ?_
  intro W base args ds gs before hval0 hW hcnd _
  have hval : ∀ (j : Nat) t v, Try.f3.params[j]? = some t → args[j]? = some v → Value.okWide Try.prog W .any base t v := hval0
  have hW' := hW
  obtain ⟨p, q, hA0, hV, rfl, hfz, hnd⟩ := hW
  have hA : DataW.TrodAll enc Try.prog W 0 (fun _ => true) true Try.f3.params.toList args.toList ds p := hA0
  rw [Try.params3] at hA hval
  obtain ⟨v0, v1, v2, d0, d1, d2, p0, p1, p2, rfl, rfl, rfl, h0, h1, h2⟩ := trodAll_three hA
  obtain ⟨rfl, rfl⟩ := trodVars_none hV
  have w0 := hval 0 _ v0 rfl rfl
  have w1 := hval 1 _ v1 rfl rfl
  have w2 := hval 2 _ v2 rfl rfl
  clear hA0 hval0 hval
  simp only [List.append_nil] at hW'
  have hlt : ∀ x ∈ p0 ++ p1 ++ p2, x.block < W.heap.size := fun x hx => by simpa using hW'.lt x hx
  have l0 : ∀ x ∈ p0, x.block < W.heap.size := fun x hx => hlt x (by simp [hx])
  have l1 : ∀ x ∈ p1, x.block < W.heap.size := fun x hx => hlt x (by simp [hx])
  have l2 : ∀ x ∈ p2, x.block < W.heap.size := fun x hx => hlt x (by simp [hx])
  obtain ⟨nm, mx, bs, mn, rfl, x0, x1, x2, x3, x4, x5, x6⟩ := open_counter w0 h0
  obtain ⟨sa, n, sc, xs, rfl, hn, hx, hw, hr⟩ := open_acts w1 h1 l1
  obtain ⟨m, e2, _, _, hm⟩ := open_int Try.underlying5 w2 h2
  subst e2
  have b1 : IntKind.u8.min = 0 := rfl
  have b2 : IntKind.u8.max = 255 := rfl
  simp only [Lit.wf, Bool.and_eq_true, decide_eq_true_eq] at hm
  have main : Calls Try.prog 3 #[.agg #[.string nm, .int .u32 mx, .int .u32 bs, .int .u32 mn], .slice sa n sc, .int .u8 m] W fun e w' => e = .returned (.bool true) ∧ Kept [] W w' := by
    by_cases h : Clk.may mx mn 4
    · exact coming_law W nm mx bs mn m sa n sc xs h (by omega) (by omega) hn hr hx hw
    · exact coming_nil W nm mx bs mn m sa n sc h
  refine main.mono fun e W' ⟨he, hk⟩ => ?_
  subst he
  have hB := hk.below
  refine ⟨_, rfl, _, _, _, [], p0 ++ (p1 ++ p2), [], hW', ?_, ?_, rfl, hB.frame _, fun h => by cases h⟩
  · exact trodAll_mk1 (shut_bool Try.underlying4 true)
  · exact trodAll_mk3 (Below.trod laid_out (by kernel_rfl) (of_decide_eq_true (by kernel_rfl)) h0 hB l0) (Below.trod laid_out (by kernel_rfl) (of_decide_eq_true (by kernel_rfl)) h1 hB l1) (Below.trod laid_out (by kernel_rfl) (of_decide_eq_true (by kernel_rfl)) h2 hB l2)

theorem clockComing_holds : Rows.ClockComingSaid :=
  OpenClaim.holds_of_wide 3 Try.f3 rfl rfl rfl rfl rfl rfl rfl ⟨rfl, rfl, rfl, rfl, rfl⟩ rfl rfl rfl rfl rfl (by kernel_rfl) Try.func3 (by kernel_rfl)
    (of_decide_eq_true (by kernel_rfl)) (by unfold Func.isWrapper; first | (rw [if_pos (by decide +kernel)]; kernel_rfl) | (rw [if_neg (by decide +kernel)]; exact ⟨rfl, rfl⟩))
    (fun os started H enc _ => clockComing_lifted os started H enc)

end Go.Proofs.Ytopgfhcgfpceaaa
