/- For every counter and every two scripts: the law ClockApart returns true, and its input reads as it did. -/
import Derived.Test.YtopgfhcgfpceaaaRows
import Derived.Test.YtopgfhcgfpceaaaPlG
import Derived.Test.YtopgfhcgfpceaaaOpn
namespace Go.Proofs.Ytopgfhcgfpceaaa
open Go.ChangeShapes Go.WideShapes Go.ChangeAt Go.RowKit

set_option maxRecDepth 100000 in
theorem clockApart_lifted (os : Os) (started : os.Started) (H : Type) (enc : TypeId × Value → H) :
    ReturnsInHanded {} Try.checked os 6 .any (Rows.clockApartSpec.pre6 enc Try.prog Try.f6 Rows.clockApartRow.domain false) (Rows.clockApartSpec.post enc Try.prog Try.f6 false true false false) := by
  refine returnsInHanded_of_change (C := Try.checked) own_knob started (by kernel_rfl) Try.func6
    (ChangeSpec.witness6 (enc := enc) (C := Try.checked) false ⟨#[], #[.agg #[.string ByteArray.empty, .int .u32 0, .int .u32 0, .int .u32 0], .slice none 0 0, .slice none 0 0], []⟩ 8 (by kernel_rfl) (by kernel_rfl) (by kernel_rfl) (by kernel_rfl)) ?_
  intro W base args ds gs before hval0 hW hcnd _
  have hval : ∀ (j : Nat) t v, Try.f6.params[j]? = some t → args[j]? = some v → Value.okWide Try.prog W .any base t v := hval0
  have hW' := hW
  obtain ⟨p, q, hA0, hV, rfl, hfz, hnd⟩ := hW
  have hA : DataW.TrodAll enc Try.prog W 0 (fun _ => true) true Try.f6.params.toList args.toList ds p := hA0
  rw [Try.params6] at hA hval
  obtain ⟨v0, v1, v2, d0, d1, d2, p0, p1, p2, rfl, rfl, rfl, h0, h1, h2⟩ := trodAll_three hA
  obtain ⟨rfl, rfl⟩ := trodVars_none hV
  have w0 := hval 0 _ v0 rfl rfl
  have w1 := hval 1 _ v1 rfl rfl
  have w2 := hval 2 _ v2 rfl rfl
  clear hA0 hval0 hval
  simp only [List.append_nil] at hW'
  have hlt : ∀ x ∈ p0 ++ p1 ++ p2, x.block < W.heap.size := fun x hx => by simpa using hW'.lt x hx
  have l0 : ∀ x ∈ p0, x.block < W.heap.size := fun x hx => hlt x (by simp [hx])
  have l1 : ∀ x ∈ p1, x.block < W.heap.size := fun x hx => hlt x (by simp [hx])
  have l2 : ∀ x ∈ p2, x.block < W.heap.size := fun x hx => hlt x (by simp [hx])
  obtain ⟨nm, mx, bs, mn, rfl, x0, x1, x2, x3, x4, x5, x6⟩ := open_counter w0 h0
  obtain ⟨sa, n1, c1, xs, rfl, hn1, hxa, hwa, hra⟩ := open_acts w1 h1 l1
  obtain ⟨sb, n2, c2, ys, rfl, hn2, hxb, hwb, hrb⟩ := open_acts w2 h2 l2
  have main : Calls Try.prog 6 #[.agg #[.string nm, .int .u32 mx, .int .u32 bs, .int .u32 mn], .slice sa n1 c1, .slice sb n2 c2] W fun e w' => e = .returned (.bool true) ∧ Kept [] W w' := by
    by_cases h : Clk.may mx mn 3
    · exact apart_law W nm mx bs mn sa sb n1 c1 n2 c2 xs ys h hn1 hn2 hra hxa hwa hrb hxb hwb
    · exact apart_bad W nm mx bs mn sa sb n1 c1 n2 c2 h
  refine main.mono fun e W' ⟨he, hk⟩ => ?_
  subst he
  have hB := hk.below
  refine ⟨_, rfl, _, _, _, [], p0 ++ (p1 ++ p2), [], hW', ?_, ?_, rfl, hB.frame _, fun h => by cases h⟩
  · exact trodAll_mk1 (shut_bool Try.underlying4 true)
  · exact trodAll_mk3 (Below.trod laid_out (by kernel_rfl) (of_decide_eq_true (by kernel_rfl)) h0 hB l0) (Below.trod laid_out (by kernel_rfl) (of_decide_eq_true (by kernel_rfl)) h1 hB l1) (Below.trod laid_out (by kernel_rfl) (of_decide_eq_true (by kernel_rfl)) h2 hB l2)

theorem clockApart_holds : Rows.ClockApartSaid :=
  OpenClaim.holds_of_wide 6 Try.f6 rfl rfl rfl rfl rfl rfl rfl ⟨rfl, rfl, rfl, rfl, rfl⟩ rfl rfl rfl rfl rfl (by kernel_rfl) Try.func6 (by kernel_rfl)
    (of_decide_eq_true (by kernel_rfl)) (by unfold Func.isWrapper; first | (rw [if_pos (by decide +kernel)]; kernel_rfl) | (rw [if_neg (by decide +kernel)]; exact ⟨rfl, rfl⟩))
    (fun os started H enc _ => clockApart_lifted os started H enc)

end Go.Proofs.Ytopgfhcgfpceaaa
