/- The walks of package clock: Clone of what Coming tells, Coming. -/
import Derived.Test.YtopgfhcgfpceaaaClkF
import Derived.Lib.SliceRun
namespace Go.Proofs.Ytopgfhcgfpceaaa
open Go.RowKit

theorem Try.info41 : (Try.prog.info? 41).map (fun i => (i.zero, i.size, i.bytes)) = some (some (.agg #[.int .u64 0, .int .i64 0]), 2, 16) := by kernel_rfl

def encE (x : Int × Nat) : List Value := [.int .u64 x.1, .int .i64 (x.2 : Nat)]
theorem encE_length (x : Int × Nat) : (encE x).length = 2 := rfl
theorem encE_one (a : Int × Nat) : ∀ v ∈ encE a, v.oneCell' = true := by
  intro v hv
  simp [encE] at hv
  rcases hv with rfl | rfl <;> rfl

set_option maxRecDepth 20000 in
/-- slices.Clone of a slice of the caller's own. -/
theorem ck_Clone (w : World) (g n cap : Nat) (xs : List (Int × Nat)) (hx : xs.length = n) (hn : n ≤ 131072)
    (hc : ∀ j v, (xs.flatMap encE)[j]? = some v → w.cell? ((⟨g, 0, none⟩ : Addr).add j) = some v) (hg : g < w.heap.size) (R : Ending → World → Prop)
    (r : ∀ v w', w'.ownsRow w.heap.size 41 2 v n (xs.flatMap encE) → Kept [] w w' → R (.returned v) w') :
    Calls Try.prog 95 #[.slice (some ⟨g, 0, none⟩) n cap] w (Fin R) := by
  obtain ⟨i0, hi, hz0, hz1, hz2⟩ := info_parts Try.info41
  have hl : (xs.flatMap encE).length = n * 2 := by rw [flat_length encE_length, hx]
  have hone := oneCell_flat encE_one xs
  generalize xs.flatMap encE = cs at *
  clear hx
  have hnil := fun w' => Lib.run_eql_slice_nil (P := Try.prog) w' 37 41 (some ⟨g, 0, none⟩) n cap 0 0 Try.underlying37
  have hown0 : (w.alloc (.cells #[] 41)).ownsRow w.heap.size 41 2 (.slice (some ⟨w.heap.size, 0, none⟩) 0 0) 0 [] := World.ownsRow_made w #[] 0 (Nat.le_refl _) (by simp [maxLen]) rfl
  have hc' : ∀ j v, cs[j]? = some v → (w.alloc (.cells #[] 41)).cell? ((⟨g, 0, none⟩ : Addr).add j) = some v := by
    intro j v hj
    rw [← hc j v hj]
    exact World.cell?_alloc_lt w _ _ (by unfold Addr.add; split <;> exact hg)
  go_enter Try.func95, Try.ntmps95
  go_wp2_with (at_builtin; go_loud (refine wpList_append_own _ rfl (.tmp 5) (.tmp 6) 37 rfl w.heap.size 41 i0 _ 2 16 Try.underlying37 hi hz0 hz1 hz2 rfl (by decide) _ _ _ rfl hown0 ⟨g, 0, none⟩ n cap cs rfl hl hc' hone (by unfold maxLen; omega) (by omega) (by simp) ?_); intro v' w1 hown' hgrow hnn)
  have hk := Kept.grown ((Kept.refl [] w).alloc (.cells #[] 41)) hgrow (fun k hk => .inr (hown0.lt k hk).1)
  have r' := r _ _ (by simpa using hown') hk
  clear r
  go_ret
  exact r'
end Go.Proofs.Ytopgfhcgfpceaaa
