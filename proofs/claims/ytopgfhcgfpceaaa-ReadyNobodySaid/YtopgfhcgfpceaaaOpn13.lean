/- The inputs of the laws of ready, opened. -/
import Derived.Test.YtopgfhcgfpceaaaOpnA
import Derived.Test.YtopgfhcgfpceaaaQmI
namespace Go.Proofs.Ytopgfhcgfpceaaa
open Go.ChangeShapes Go.WideShapes Go.ChangeAt Go.RowKit Go.Deep

/-- A call of a script. -/
def cEnc (x : Int × Int × Int) : List Value := [.int .i64 x.1, .int .i64 x.2.1, .int .i64 x.2.2]
theorem cEnc_length (x : Int × Int × Int) : (cEnc x).length = 3 := rfl

set_option maxRecDepth 100000 in
/-- []api.RingRow. -/
theorem open_ringrows {H : Type} {enc : TypeId × Value → H} {W : World} {base : Nat} {v : Value} {d : DataW H} {p : List MemPlace} (hv : Value.okWide Try.prog W .any base 45 v)
    (h : DataW.Trod enc Try.prog W 0 (fun _ => true) true 45 v d p) (hlt : ∀ x ∈ p, x.block < W.heap.size) :
    ∃ (a : Option Addr) (n sc : Nat) (xs : List (Int × Int)), v = .slice a n sc ∧ n ≤ 9223372036854775807 ∧ xs.length = n ∧ Reads W W.heap.size a n 2 (xs.flatMap rrEnc) := by
  obtain ⟨a, n, sc, rfl⟩ := okWide_slice Try.underlying45 hv
  obtain ⟨fuel, hf⟩ := h
  rcases open_slice_fields Try.underlying45 Try.underlying191 (by kernel_rfl) (by kernel_rfl) hf with ⟨hcs, hx⟩ | ⟨b, len, cap, m, D, Pl, hcs, _, hl, hm, hmm, hx, hi⟩
  · simp [Value.cells] at hcs
    obtain ⟨rfl, rfl, rfl⟩ := hcs
    exact ⟨none, 0, 0, [], rfl, by omega, rfl, rfl, by omega⟩
  · simp [Value.cells] at hcs
    obtain ⟨rfl, rfl, rfl⟩ := hcs
    simp only [if_true] at hmm
    subst hmm
    have hp := (Prod.mk.inj hx).2
    subst hp
    have each : ∀ i, ∃ x : Int × Int, i < n → ∀ j v, (rrEnc x)[j]? = some v → W.cell? (b.add (i * 2 + j)) = some v := by
      intro i
      by_cases hi' : i < n
      · obtain ⟨ys, n', _, _, _, hfs⟩ := hi i (by omega)
        obtain ⟨v0, y0, hc0, _, ht0⟩ := hfs 0 _ rfl
        obtain ⟨v1, y1, hc1, _, ht1⟩ := hfs 1 _ rfl
        obtain ⟨n0, e0, _, _⟩ := DataW.trod_int Try.underlying3 ht0
        obtain ⟨n1, e1, _, _⟩ := DataW.trod_int Try.underlying3 ht1
        simp only [List.cons.injEq, and_true] at e0 e1
        subst e0 e1
        refine ⟨(n0, n1), fun _ j v hj => ?_⟩
        match j, hj with
        | 0, hj => cases hj; exact hc0
        | 1, hj => cases hj; exact hc1
      · exact ⟨(0, 0), fun h => absurd h hi'⟩
    obtain ⟨f, hff⟩ := Classical.axiomOfChoice each
    have hcm : m ≤ 9223372036854775807 := by unfold maxLen at hm; exact hm
    refine ⟨_, n, m, (List.range n).map f, rfl, by omega, by simp, reads_of rrEnc_length (by omega) W b n f ?_ fun i hi' => hff i hi'⟩
    intro hn
    exact hlt (.cell b.block b.off) (List.mem_append_left _ (MemPlace.mem_row.2 ⟨0, Nat.mul_pos (by omega) (by decide), by simp⟩))

set_option maxRecDepth 100000 in
/-- []tappetlaw13.Call. -/
theorem open_calls13 {H : Type} {enc : TypeId × Value → H} {W : World} {base : Nat} {v : Value} {d : DataW H} {p : List MemPlace} (hv : Value.okWide Try.prog W .any base 46 v)
    (h : DataW.Trod enc Try.prog W 0 (fun _ => true) true 46 v d p) (hlt : ∀ x ∈ p, x.block < W.heap.size) :
    ∃ (a : Option Addr) (n sc : Nat) (xs : List (Int × Int × Int)), v = .slice a n sc ∧ n ≤ 9223372036854775807 ∧ xs.length = n ∧ Reads W W.heap.size a n 3 (xs.flatMap cEnc) := by
  obtain ⟨a, n, sc, rfl⟩ := okWide_slice Try.underlying46 hv
  obtain ⟨fuel, hf⟩ := h
  rcases open_slice_fields Try.underlying46 Try.underlying53 (by kernel_rfl) (by kernel_rfl) hf with ⟨hcs, hx⟩ | ⟨b, len, cap, m, D, Pl, hcs, _, hl, hm, hmm, hx, hi⟩
  · simp [Value.cells] at hcs
    obtain ⟨rfl, rfl, rfl⟩ := hcs
    exact ⟨none, 0, 0, [], rfl, by omega, rfl, rfl, by omega⟩
  · simp [Value.cells] at hcs
    obtain ⟨rfl, rfl, rfl⟩ := hcs
    simp only [if_true] at hmm
    subst hmm
    have hp := (Prod.mk.inj hx).2
    subst hp
    have each : ∀ i, ∃ x : Int × Int × Int, i < n → ∀ j v, (cEnc x)[j]? = some v → W.cell? (b.add (i * 3 + j)) = some v := by
      intro i
      by_cases hi' : i < n
      · obtain ⟨ys, n', _, _, _, hfs⟩ := hi i (by omega)
        obtain ⟨v0, y0, hc0, _, ht0⟩ := hfs 0 _ rfl
        obtain ⟨v1, y1, hc1, _, ht1⟩ := hfs 1 _ rfl
        obtain ⟨v2, y2, hc2, _, ht2⟩ := hfs 2 _ rfl
        obtain ⟨n0, e0, _, _⟩ := DataW.trod_int Try.underlying3 ht0
        obtain ⟨n1, e1, _, _⟩ := DataW.trod_int Try.underlying3 ht1
        obtain ⟨n2, e2, _, _⟩ := DataW.trod_int Try.underlying3 ht2
        simp only [List.cons.injEq, and_true] at e0 e1 e2
        subst e0 e1 e2
        refine ⟨(n0, n1, n2), fun _ j v hj => ?_⟩
        match j, hj with
        | 0, hj => cases hj; exact hc0
        | 1, hj => cases hj; exact hc1
        | 2, hj => cases hj; exact hc2
      · exact ⟨(0, 0, 0), fun h => absurd h hi'⟩
    obtain ⟨f, hff⟩ := Classical.axiomOfChoice each
    have hcm : m ≤ 9223372036854775807 := by unfold maxLen at hm; exact hm
    refine ⟨_, n, m, (List.range n).map f, rfl, by omega, by simp, reads_of cEnc_length (by omega) W b n f ?_ fun i hi' => hff i hi'⟩
    intro hn
    exact hlt (.cell b.block b.off) (List.mem_append_left _ (MemPlace.mem_row.2 ⟨0, Nat.mul_pos (by omega) (by decide), by simp⟩))

end Go.Proofs.Ytopgfhcgfpceaaa
