/- The law ReadyNobody: the walk. -/
import Derived.Test.YtopgfhcgfpceaaaLrD
namespace Go.Proofs.Ytopgfhcgfpceaaa
open Go.RowKit Go.Shelf

set_option maxRecDepth 100000 in
set_option maxHeartbeats 2000000 in
theorem law_ReadyNobody (w : World) (p id : Int) : Calls Try.prog 10 #[.int .i64 p, .int .i64 id] w fun e w' => e = .returned (.bool true) ∧ Kept [] w w' := by
  go_enter Try.func10, Try.ntmps10
  go_wp2_with (fail)
  refine (law_nobody_nil _ _ _).mono ?_
  rintro e w1 ⟨rfl, k1⟩
  have hz : QAtB false (w1.alloc (.cells Try.zeroCells93 93)) w1.heap.size (fun _ => 0) (fun _ => 0) [] 0 := by
    refine ⟨?_, fun i r hi => by simp at hi, fun i hi => by simp at hi, fun i j hi => by simp at hi, ⟨by simp, by simp⟩⟩
    exact Row.new' (cs := qcells false (fun _ => 0) [] 0) rfl
  have hno := law_nobody_zero _ _ _ _ p id hz
  have k2 := k1.alloc (.cells Try.zeroCells93 93)
  have hs := k1.size
  clear hz k1
  go_wp2_with (fail)
  refine hno.mono ?_
  rintro e w3 ⟨rfl, k3⟩
  have k4 : Kept [] w w3 := k2.then k3 (by simp; omega)
  clear hno k2 k3
  go_wp2_with (fail)
  refine (law_heads _).mono ?_
  rintro e w4 ⟨rfl, k5⟩
  have k6 := k4.trans k5
  clear k4 k5
  go_wp2
  go_ret
  exact ⟨rfl, k6⟩
end Go.Proofs.Ytopgfhcgfpceaaa
