/- The laws' inputs, opened: a slice of structs of int fields as a list of rows; a struct of a name and three counts. -/
import Derived.Test.YtopgfhcgfpceaaaClkL
import Derived.ProofKit
import Derived.Lib.SmallJoins
import Derived.Deep.Slices
import Derived.Deep.Fields
import Derived.ChangeSame
import Derived.SizedLaws
namespace Go.Proofs.Ytopgfhcgfpceaaa
open Go.ChangeShapes Go.WideShapes Go.ChangeAt Go.RowKit Go.Deep

theorem own_knob : ownKnob Try.prog.godebug = none := by kernel_rfl
theorem laid_out : laidOutB Try.prog = true := by kernel_rfl

section
variable {H : Type} {enc : TypeId × Value → H} {P : Program} {w : World} {base : Nat} {spare : Nat → Bool} {held : Bool}
theorem open_slice_fields {t e : TypeId} {fs : Array Field} {fuel : Nat} {cs : List Value} {x : DataW H × List MemPlace} (ht : P.underlying t = some (.slice e)) (he : P.underlying e = some (.struct fs))
    (hone : oneCellFields P fs = true) (hC : P.cellsOf e = fs.size) (h : DataW.trod enc P w base spare held fuel t cs = some x) :
    (cs = [.slice none 0 0] ∧ x = (.nil, [])) ∨
    ∃ (a : Addr) (len cap m : Nat) (D : Nat → DataW H) (Pl : Nat → List MemPlace), cs = [.slice (some a) len cap] ∧ base ≤ a.block ∧ len ≤ cap ∧ cap ≤ maxLen ∧ m = (if spare a.block then cap else len) ∧
      x = (.slice ((List.range len).map D) ((List.range (m - len)).map fun j => D (len + j)), MemPlace.row a (m * fs.size) ++ (List.range m).flatMap Pl) ∧
      ∀ i, i < m → ∃ (ys : List (DataW H × List MemPlace)) (n : Nat), D i = .agg (ys.map (·.1)) ∧ Pl i = ys.flatMap (·.2) ∧ ys.length = fs.size ∧
        ∀ (j : Nat) (f : Field), fs[j]? = some f → ∃ (v : Value) (y : DataW H × List MemPlace), w.cell? (a.add (i * fs.size + j)) = some v ∧ ys[j]? = some y ∧ DataW.trod enc P w base spare held n f.type [v] = some y := by
  rcases open_slice ht h with h0 | ⟨a, len, cap, m, n, D, Pl, hcs, hb, hl, hm, hmm, hx, hi⟩
  · exact .inl h0
  · refine .inr ⟨a, len, cap, m, D, Pl, hcs, hb, hl, hm, hmm, by rw [hC] at hx; exact hx, fun i him => ?_⟩
    obtain ⟨cs', hc, ht'⟩ := hi i him
    rw [hC] at hc
    obtain ⟨ys, n', hn', hy, hlen, hyl, hf⟩ := DataW.trod_struct he ht'
    obtain ⟨_, hcl, hat⟩ := World.cells?_some hc
    simp only [Prod.mk.injEq] at hy
    refine ⟨ys, n', hy.1, hy.2, hyl, fun j f hj => ?_⟩
    obtain ⟨ho, hk⟩ := hone_of hone j f hj
    have hjl : j < fs.size := (Array.getElem?_eq_some_iff.1 hj).1
    have hcell := hat j hjl
    have hv : cs'[j]? = some (cs'[j]'(by omega)) := List.getElem?_eq_getElem (by omega)
    have h1 := hf j f hj
    rw [ho, hk] at h1
    have hone' : (cs'.drop j).take 1 = [cs'[j]'(by omega)] := by
      rw [List.drop_eq_getElem_cons (by omega)]
      rfl
    rw [hone'] at h1
    have hys : ys[j]? = some (ys[j]'(by omega)) := List.getElem?_eq_getElem (by omega)
    refine ⟨_, _, ?_, hys, h1.trans hys⟩
    rw [← Go.Deep.add_add, hcell, hv]
end

theorem reads_of {α : Type} {e : α → List Value} {k : Nat} (he : ∀ x, (e x).length = k) (hk : 0 < k) (W : World) (b : Addr) (len : Nat) (f : Nat → α) (hb : 0 < len → b.block < W.heap.size)
    (hc : ∀ i, i < len → ∀ j v, (e (f i))[j]? = some v → W.cell? (b.add (i * k + j)) = some v) : Reads W W.heap.size (some b) len k (((List.range len).map f).flatMap e) := by
  have hl : ∀ l : List α, (l.flatMap e).length = l.length * k := by
    intro l
    induction l with
    | nil => simp
    | cons a l ih => simp [ih, he, Nat.add_mul, Nat.add_comm]
  refine ⟨by rw [hl]; simp, fun hn => ?_⟩
  have h0 : (e (f 0))[0]? = some ((e (f 0))[0]'(by rw [he]; exact hk)) := List.getElem?_eq_getElem _
  have hs := World.cell?_spot (hc 0 hn 0 _ h0)
  obtain ⟨bb, off, spot⟩ := b
  have hs : spot = none := by simpa [Addr.add] using hs
  subst hs
  refine ⟨bb, off, rfl, hb hn, fun j v hj => ?_⟩
  have hjl := (List.getElem?_eq_some_iff.1 hj).1
  rw [hl, List.length_map, List.length_range] at hjl
  have hd : j / k < len := Nat.div_lt_of_lt_mul (by rw [Nat.mul_comm]; exact hjl)
  have hm : j % k < k := Nat.mod_lt _ hk
  have ej : j / k * k + j % k = j := by rw [Nat.mul_comm]; exact Nat.div_add_mod j k
  have h1 : ((List.range len).map f)[j / k]? = some (f (j / k)) := by simp [hd]
  have h2 := flat_get he _ (j / k) (j % k) _ h1 hm
  rw [ej, hj] at h2
  have h3 := hc _ hd _ _ h2.symm
  rw [ej, Addr.add_mid] at h3
  exact h3

set_option maxRecDepth 100000 in
/-- []tappetlaw16.Act. -/
theorem open_acts {H : Type} {enc : TypeId × Value → H} {W : World} {base : Nat} {v : Value} {d : DataW H} {p : List MemPlace} (hv : Value.okWide Try.prog W .any base 25 v)
    (h : DataW.Trod enc Try.prog W 0 (fun _ => true) true 25 v d p) (hlt : ∀ x ∈ p, x.block < W.heap.size) :
    ∃ (a : Option Addr) (n sc : Nat) (xs : List CAct), v = .slice a n sc ∧ n ≤ 9223372036854775807 ∧ xs.length = n ∧ (∀ x ∈ xs, x.wf) ∧ Reads W W.heap.size a n 4 (xs.flatMap CAct.enc) := by
  obtain ⟨a, n, sc, rfl⟩ := okWide_slice Try.underlying25 hv
  obtain ⟨fuel, hf⟩ := h
  rcases open_slice_fields Try.underlying25 Try.underlying32 (by kernel_rfl) (by kernel_rfl) hf with ⟨hcs, hx⟩ | ⟨b, len, cap, m, D, Pl, hcs, _, hl, hm, hmm, hx, hi⟩
  · simp [Value.cells] at hcs
    obtain ⟨rfl, rfl, rfl⟩ := hcs
    exact ⟨none, 0, 0, [], rfl, by omega, rfl, by simp, rfl, by omega⟩
  · simp [Value.cells] at hcs
    obtain ⟨rfl, rfl, rfl⟩ := hcs
    simp only [if_true] at hmm
    subst hmm
    have hp := (Prod.mk.inj hx).2
    subst hp
    have each : ∀ i, ∃ x : CAct, i < n → x.wf ∧ ∀ j v, x.enc[j]? = some v → W.cell? (b.add (i * 4 + j)) = some v := by
      intro i
      by_cases hi' : i < n
      · obtain ⟨ys, n', _, _, _, hfs⟩ := hi i (by omega)
        obtain ⟨v0, y0, hc0, _, ht0⟩ := hfs 0 _ rfl
        obtain ⟨v1, y1, hc1, _, ht1⟩ := hfs 1 _ rfl
        obtain ⟨v2, y2, hc2, _, ht2⟩ := hfs 2 _ rfl
        obtain ⟨v3, y3, hc3, _, ht3⟩ := hfs 3 _ rfl
        obtain ⟨n0, e0, _, w0⟩ := DataW.trod_int Try.underlying3 ht0
        obtain ⟨n1, e1, _, w1⟩ := DataW.trod_int Try.underlying3 ht1
        obtain ⟨n2, e2, _, w2⟩ := DataW.trod_int Try.underlying22 ht2
        obtain ⟨n3, e3, _, w3⟩ := DataW.trod_int Try.underlying22 ht3
        simp only [List.cons.injEq, and_true] at e0 e1 e2 e3
        subst e0 e1 e2 e3
        have b1 : IntKind.u32.min = 0 := rfl
        have b2 : IntKind.u32.max = 4294967295 := rfl
        simp only [Lit.wf, Bool.and_eq_true, decide_eq_true_eq] at w2 w3
        refine ⟨⟨n0, n1, n2, n3⟩, fun _ => ⟨⟨by dsimp only; omega, by dsimp only; omega, by dsimp only; omega, by dsimp only; omega⟩, fun j v hj => ?_⟩⟩
        match j, hj with
        | 0, hj => cases hj; exact hc0
        | 1, hj => cases hj; exact hc1
        | 2, hj => cases hj; exact hc2
        | 3, hj => cases hj; exact hc3
      · exact ⟨⟨0, 0, 0, 0⟩, fun h => absurd h hi'⟩
    obtain ⟨f, hff⟩ := Classical.axiomOfChoice each
    have hcm : m ≤ 9223372036854775807 := by unfold maxLen at hm; exact hm
    refine ⟨_, n, m, (List.range n).map f, rfl, by omega, by simp, ?_, reads_of CAct.enc_length (by omega) W b n f ?_ fun i hi' => (hff i hi').2⟩
    · intro x hx
      obtain ⟨i, hi', rfl⟩ := List.mem_map.1 hx
      exact (hff i (by simpa using hi')).1
    · intro hn
      exact hlt (.cell b.block b.off) (List.mem_append_left _ (MemPlace.mem_row.2 ⟨0, Nat.mul_pos (by omega) (by decide), by simp⟩))

set_option maxRecDepth 100000 in
/-- api.Counter. -/
theorem open_counter {H : Type} {enc : TypeId × Value → H} {W : World} {base : Nat} {v : Value} {d : DataW H} {p : List MemPlace} (hv : Value.okWide Try.prog W .any base 24 v)
    (h : DataW.Trod enc Try.prog W 0 (fun _ => true) true 24 v d p) :
    ∃ (nm : ByteArray) (mx bs mn : Int), v = .agg #[.string nm, .int .u32 mx, .int .u32 bs, .int .u32 mn] ∧ nm.size ≤ maxLen ∧ 0 ≤ mx ∧ mx ≤ 4294967295 ∧ 0 ≤ bs ∧ bs ≤ 4294967295 ∧ 0 ≤ mn ∧ mn ≤ 4294967295 := by
  obtain ⟨v0, v1, v2, v3, y0, y1, y2, y3, n, rfl, _, _, h0, h1, h2, h3⟩ := Go.Joins.open_agg4 Try.underlying24 (by kernel_rfl) (by kernel_rfl) hv h
  obtain ⟨s, e0, _, w0⟩ := DataW.trod_string Try.underlying9 h0
  obtain ⟨n1, e1, _, w1⟩ := DataW.trod_int Try.underlying22 h1
  obtain ⟨n2, e2, _, w2⟩ := DataW.trod_int Try.underlying22 h2
  obtain ⟨n3, e3, _, w3⟩ := DataW.trod_int Try.underlying22 h3
  simp only [List.cons.injEq, and_true] at e0 e1 e2 e3
  subst e0 e1 e2 e3
  have b1 : IntKind.u32.min = 0 := rfl
  have b2 : IntKind.u32.max = 4294967295 := rfl
  simp only [Lit.wf, Bool.and_eq_true, decide_eq_true_eq] at w1 w2 w3
  exact ⟨s, n1, n2, n3, rfl, w0, by omega, by omega, by omega, by omega, by omega, by omega⟩

end Go.Proofs.Ytopgfhcgfpceaaa
