/- Laws for operations on whole rows, over any program: copy, clear, make, append of a whole source; nothing of the program at hand in sight. -/
import Derived.Test.YtopgfhcgfpceaaaHeap
import Derived.Laws.OwnMore
import Derived.Laws.MakeOwn
import Derived.StillTailTactics
import Derived.Lib.Hide
import Derived.Deep.QuietTactic
import Derived.BigQuiet
import Derived.Deep.RegionHeld3
namespace Go.Proofs.Ytopgfhcgfpceaaa
open Go.RowKit

theorem Row.setRow {w : World} {g : Nat} {T : TypeId} {cur : List Value} (h : Row w g T cur) (cs : List Value) : Row (w.setRow g cs.toArray) g T cs :=
  setRow_heap w g cur.toArray cs.toArray T (0, 0) h

theorem Row.setRow_ne {w : World} {g b : Nat} {T : TypeId} {cur : List Value} (h : Row w b T cur) (cs : Array Value) (hne : b ≠ g) : Row (w.setRow g cs) b T cur :=
  h.of_same (setRow_other w g b cs hne)

theorem Kept.setRow {S : List Nat} {a b : World} (h : Kept S a b) {g : Nat} (hg : g ∈ S ∨ a.heap.size ≤ g) (cs : Array Value) : Kept S a (b.setRow g cs) :=
  ⟨h.os, h.tape, h.output, by simpa using h.size, fun k hk hn => (setRow_other b g k cs (fun e => by subst e; rcases hg with h1 | h1; exact hn h1; omega)).trans (h.block k hk hn)⟩

theorem oneCell_flat {α : Type} {enc : α → List Value} (h : ∀ a, ∀ v ∈ enc a, v.oneCell' = true) (l : List α) : ∀ v ∈ l.flatMap enc, v.oneCell' = true := by
  intro v hv
  obtain ⟨a, _, ha⟩ := List.mem_flatMap.1 hv
  exact h a v ha

theorem madeCells_flat {α : Type} (enc : α → List Value) (a : α) (n s : Nat) (hs : (enc a).length = s) (h0 : 0 < s) : madeCells (enc a).toArray (n * s) = ((List.replicate n a).flatMap enc).toArray := by
  subst hs
  apply Array.ext'
  apply List.ext_getElem?
  intro j
  have hl : ((List.replicate n a).flatMap enc).length = n * (enc a).length := by
    induction n with
    | zero => simp
    | succ n ih => rw [List.replicate_succ, List.flatMap_cons, List.length_append, ih, Nat.add_mul]; omega
  have key : ∀ (n j : Nat), j < n * (enc a).length → ((List.replicate n a).flatMap enc)[j]? = (enc a)[j % (enc a).length]? := by
    intro n
    induction n with
    | zero => intro j hj; omega
    | succ n ih =>
      intro j hj
      rw [List.replicate_succ, List.flatMap_cons]
      by_cases hlt : j < (enc a).length
      · rw [List.getElem?_append_left hlt, Nat.mod_eq_of_lt hlt]
      · rw [List.getElem?_append_right (by omega), ih (j - (enc a).length) (by rw [Nat.add_mul] at hj; omega), ← Nat.mod_eq_sub_mod (by omega)]
  by_cases hj : j < n * (enc a).length
  · have hm : j % (enc a).length < (enc a).length := Nat.mod_lt _ h0
    show _ = ((List.replicate n a).flatMap enc)[j]?
    rw [key n j hj]
    simp [madeCells, hj, hm]
  · show _ = ((List.replicate n a).flatMap enc)[j]?
    rw [List.getElem?_eq_none (by omega : ((List.replicate n a).flatMap enc).length ≤ j)]
    simp [madeCells, hj]

section
variable {P : Program} {ops : Array Oper} {rest : List Oper} {o : Oper} {a : Act} {Q : Exit → Act → World → Prop} {w : World}

/-- 'copy' of n things onto n things: the row is the source's. -/
theorem run_copy_full (dT sT ty elem : TypeId) (i : TypeInfo) (g n dc sc : Nat) (ad : Addr) (cur cs : List Value) (T : TypeId) (hu : P.underlying dT = some (.slice elem)) (hi : P.info? elem = some i)
    (hg : Row w g T cur) (hl : cs.length = n * i.size) (hl' : cur.length = cs.length) (hsrc : ∀ j v, cs[j]? = some v → w.cell? (ad.add j) = some v) (h1 : ∀ v ∈ cs, v.oneCell' = true) :
    (Builtin.copy_ #[dT, sT] ty #[.slice (some ⟨g, 0, none⟩) n dc, .slice (some ad) n sc]).run P w = .ok (goInt n) (w.setRow g cs.toArray) := by
  have hf := run_firstCells_some (P := P) w i.size n ad n sc cs hl hsrc
  have hst := run_storeCells_at P g 0 T cs 0 cur.toArray w hg (by simp; omega) h1
  have hd0 : cur.drop cs.length = [] := List.drop_eq_nil_of_le (by omega)
  simp only [Nat.add_zero, Nat.zero_add, List.take_zero, List.nil_append, hd0, List.append_nil] at hst
  simp [Builtin.copy_, run_underlying hu, Builtin.lenOf, sizeOf, typeInfo, hi, hf, hst]

theorem wpList_copy_full (hgd : o.guard = none) (d s : Operand) (dT sT : TypeId) (ho : o.op = .call { callee := .builtin .copy, args := #[d, s], argTypes := #[dT, sT] }) (elem : TypeId) (i : TypeInfo)
    (g n dc sc : Nat) (ad : Addr) (hd : a.eval d = .slice (some ⟨g, 0, none⟩) n dc) (hs : a.eval s = .slice (some ad) n sc) (cur cs : List Value) (T : TypeId) (hu : P.underlying dT = some (.slice elem)) (hi : P.info? elem = some i)
    (hg : Row w g T cur) (hl : cs.length = n * i.size) (hl' : cur.length = cs.length) (hsrc : ∀ j v, cs[j]? = some v → w.cell? (ad.add j) = some v) (h1 : ∀ v ∈ cs, v.oneCell' = true)
    (h : wpList P ops Q rest (a.put o.dst (goInt n)) (w.setRow g cs.toArray)) : wpList P ops Q (o :: rest) a w := by
  refine wpList_plain hgd fun K hK => ?_
  have hrun := run_copy_full (P := P) (w := w) dT sT o.type elem i g n dc sc ad cur cs T hu hi hg hl hl' hsrc h1
  unfold Oper.wp
  simp [execOp, ho, resolve, invoke, builtin, hd, hs, hrun, Result.andThen]
  exact hK _ _ h

/-- 'clear' of a whole row. -/
theorem wpList_clear_full (hgd : o.guard = none) (s : Operand) (sT : TypeId) (ho : o.op = .call { callee := .builtin .clear, args := #[s], argTypes := #[sT] }) (elem : TypeId) (i : TypeInfo) (z : Value)
    (g n sc : Nat) (hs : a.eval s = .slice (some ⟨g, 0, none⟩) n sc) (cur cs : List Value) (T : TypeId) (hu : P.underlying sT = some (.slice elem)) (hi : P.info? elem = some i) (hz : i.zero = some z)
    (hg : Row w g T cur) (hl' : cur.length = cs.length) (hcs : Builtin.zeroCells z.cells n = cs.toArray) (h1 : ∀ v ∈ cs, v.oneCell' = true)
    (h : wpList P ops Q rest (a.put o.dst (.tuple #[])) (w.setRow g cs.toArray)) : wpList P ops Q (o :: rest) a w := by
  refine wpList_plain hgd fun K hK => ?_
  have hst := run_storeCells_at P g 0 T cs 0 cur.toArray w hg (by simp; omega) h1
  have hd0 : cur.drop cs.length = [] := List.drop_eq_nil_of_le (by omega)
  simp only [Nat.add_zero, Nat.zero_add, List.take_zero, List.nil_append, hd0, List.append_nil] at hst
  have hrun : (Builtin.clear_ #[sT] o.type #[.slice (some ⟨g, 0, none⟩) n sc]).run P w = .ok (.tuple #[]) (w.setRow g cs.toArray) := by
    cases n with
    | zero =>
      have : cs = [] := by
        have e : (Builtin.zeroCells z.cells 0).size = cs.length := by rw [hcs]; simp
        simp [Builtin.zeroCells] at e
        exact List.eq_nil_of_length_eq_zero e.symm
      subst this
      have hc : cur = [] := List.eq_nil_of_length_eq_zero hl'
      subst hc
      rw [setRow_self w g #[] T (0, 0) hg]
      simp [Builtin.clear_, run_underlying hu]
    | succ n => simp [Builtin.clear_, run_underlying hu, zeroValue, typeInfo, hi, hz, hcs, hst]
  unfold Oper.wp
  simp [execOp, ho, resolve, invoke, builtin, hs, hrun, Result.andThen]
  exact hK _ _ h
end

/-- A region that draws its order, whose first n operations leave the world alone, and whose others stand in one order. -/
theorem still_tail {P : Program} {id : Nat} {Q : Exit → Act → World → Prop} {a : Act} {w : World} {l : List Oper} (n : Nat) (hm : P.follows .mixedOrders = true) (hB : Region.lexTailB .any l.toArray n = true)
    (h : wpStill P l.toArray w.drew (fun a' => wpList P l.toArray Q (l.drop n) a' w.drew) (l.take n) a) : (Code.region id l.toArray true).wp P Q a w :=
  wp_region_still_tail n hm hB h

theorem zeroCells_flat {α : Type} (enc : α → List Value) (a : α) (n : Nat) (h0 : 0 < (enc a).length) : Builtin.zeroCells (enc a).toArray n = ((List.replicate n a).flatMap enc).toArray := by
  rw [← madeCells_flat enc a n _ rfl h0]
  simp [Builtin.zeroCells, madeCells]

end Go.Proofs.Ytopgfhcgfpceaaa
