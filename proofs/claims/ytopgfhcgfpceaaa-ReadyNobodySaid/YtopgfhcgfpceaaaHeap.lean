/- Blocks of memory that are known whole ('Row'), and what a call leaves as it was ('Kept'): plain facts on worlds; no program in sight. -/
import Derived.WalkKit
import Derived.WalkSpells
import Derived.WalkLawsBesides
import Derived.Laws.CopyOwn
namespace Go.Proofs.Ytopgfhcgfpceaaa
open Go.RowKit

/-- A post that the walk does not look into. -/
def Fin (R : Ending → World → Prop) (e : Ending) (w : World) : Prop := R e w

/-- Block b holds just these cells, and nothing of it is frozen. -/
def Row (w : World) (b : Nat) (T : TypeId) (cs : List Value) : Prop := w.heap[b]? = some (.cells cs.toArray T (0, 0))

section
variable {w : World} {b : Nat} {T : TypeId} {cs : List Value}

theorem Row.lt (h : Row w b T cs) : b < w.heap.size := (Array.getElem?_eq_some_iff.1 h).1

theorem Row.cell (h : Row w b T cs) {i : Nat} {v : Value} (hi : cs[i]? = some v) : w.cell? ⟨b, i, none⟩ = some v := by
  simp only [World.cell?, show w.heap[b]? = some (.cells cs.toArray T (0, 0)) from h]
  simpa using hi

theorem Row.free (h : Row w b T cs) (i : Nat) : w.frozen? ⟨b, i, none⟩ = false := by
  simp [World.frozen?, show w.heap[b]? = some (.cells cs.toArray T (0, 0)) from h]

theorem Row.of_same {w' : World} (h : Row w b T cs) (hs : w'.heap[b]? = w.heap[b]?) : Row w' b T cs := hs.trans h

theorem Row.set (h : Row w b T cs) (i : Nat) (v : Value) : Row (w.setCell ⟨b, i, none⟩ v) b T (cs.set i v) := by
  simp only [Row, World.setCell, Array.getElem?_modify, if_true]
  rw [show w.heap[b]? = some (.cells cs.toArray T (0, 0)) from h]
  simp

theorem Row.set_ne (h : Row w b T cs) {a : Addr} (hne : a.block ≠ b) (v : Value) : Row (w.setCell a v) b T cs :=
  h.of_same (Below.heap_setCell w a v b (Ne.symm hne))

theorem Row.alloc (h : Row w b T cs) (o : Obj) : Row (w.alloc o) b T cs := h.of_same (Below.heap_alloc w o b h.lt)

theorem Row.drew (h : Row w b T cs) : Row w.drew b T cs := h

theorem Row.below {w' : World} {B : Nat} (h : Row w b T cs) (hB : Below B w w') (hb : b < B) : Row w' b T cs := h.of_same (hB.block b hb)

theorem Row.grown {w' : World} {r : Option Nat} (h : Row w b T cs) (hg : w.grownBy w' r) (hb : some b ≠ r) : Row w' b T cs := h.of_same (hg.block b h.lt hb)

theorem Row.eq {cs' : List Value} {T' : TypeId} (h : Row w b T cs) (h' : Row w b T' cs') : cs = cs' := by
  have := Option.some.inj ((show w.heap[b]? = _ from h).symm.trans h')
  simp at this
  exact this.1
end

theorem Row.new (w : World) (T : TypeId) (cs : List Value) : Row (w.alloc (.cells cs.toArray T)) w.heap.size T cs := by
  show (w.heap.push _)[w.heap.size]? = _
  simp

theorem Row.new' {w : World} {T : TypeId} {cs : List Value} {n : Nat} (hn : n = w.heap.size) : Row (w.alloc (.cells cs.toArray T)) n T cs := by
  subst hn
  exact Row.new w T cs

/-- What a call leaves: the blocks that were there, but for those in S, are as they were; the streams too. -/
structure Kept (S : List Nat) (w w' : World) : Prop where
  os : w'.os = w.os
  tape : w'.tape = w.tape
  output : w'.output = w.output
  size : w.heap.size ≤ w'.heap.size
  block : ∀ k, k < w.heap.size → k ∉ S → w'.heap[k]? = w.heap[k]?

theorem Kept.refl (S : List Nat) (w : World) : Kept S w w := ⟨rfl, rfl, rfl, Nat.le_refl _, fun _ _ _ => rfl⟩

theorem Kept.trans {S : List Nat} {a b c : World} (h : Kept S a b) (k : Kept S b c) : Kept S a c :=
  ⟨k.os.trans h.os, k.tape.trans h.tape, k.output.trans h.output, Nat.le_trans h.size k.size,
    fun i hi hn => (k.block i (Nat.lt_of_lt_of_le hi h.size) hn).trans (h.block i hi hn)⟩

/-- A second step may write the same blocks, and whatever has come since the first began. -/
theorem Kept.then {S S' : List Nat} {a b c : World} (h : Kept S a b) (k : Kept S' b c) (hs : ∀ i ∈ S', i ∈ S ∨ a.heap.size ≤ i) : Kept S a c :=
  ⟨k.os.trans h.os, k.tape.trans h.tape, k.output.trans h.output, Nat.le_trans h.size k.size,
    fun i hi hn => (k.block i (Nat.lt_of_lt_of_le hi h.size) (fun hm => by rcases hs i hm with h1 | h1; exact hn h1; omega)).trans (h.block i hi hn)⟩

theorem Kept.mono {S S' : List Nat} {a b : World} (h : Kept S a b) (hs : ∀ i ∈ S, i ∈ S') : Kept S' a b :=
  ⟨h.os, h.tape, h.output, h.size, fun i hi hn => h.block i hi (fun hm => hn (hs i hm))⟩

theorem Kept.drew {S : List Nat} {a b : World} (h : Kept S a b) : Kept S a b.drew := ⟨h.os, h.tape, h.output, h.size, h.block⟩

theorem Kept.alloc {S : List Nat} {a b : World} (h : Kept S a b) (o : Obj) : Kept S a (b.alloc o) :=
  h.trans ⟨rfl, rfl, rfl, by simp, fun k hk _ => Below.heap_alloc _ _ _ hk⟩

theorem Kept.setCell {S : List Nat} {a b : World} (h : Kept S a b) {p : Addr} (hp : p.block ∈ S ∨ a.heap.size ≤ p.block) (v : Value) : Kept S a (b.setCell p v) :=
  ⟨h.os, h.tape, h.output, by simpa using h.size, fun k hk hn => (Below.heap_setCell _ _ _ _ (fun e => by
    subst e; rcases hp with h1 | h1; exact hn h1; omega)).trans (h.block k hk hn)⟩

theorem Kept.grown {S : List Nat} {a b c : World} {r : Option Nat} (h : Kept S a b) (hg : b.grownBy c r) (hr : ∀ k, r = some k → k ∈ S ∨ a.heap.size ≤ k) : Kept S a c :=
  ⟨hg.os.trans h.os, hg.tape.trans h.tape, hg.output.trans h.output, Nat.le_trans h.size hg.size,
    fun k hk hn => (hg.block k (Nat.lt_of_lt_of_le hk h.size) (fun e => by
      rcases hr k e.symm with h1 | h1
      · exact hn h1
      · omega)).trans (h.block k hk hn)⟩

theorem Kept.below {a b : World} (h : Kept [] a b) : Below a.heap.size a b :=
  ⟨h.os, h.tape, h.output, h.size, fun k hk => h.block k hk (by simp)⟩

theorem Kept.of_below {a b : World} (h : Below a.heap.size a b) (S : List Nat) : Kept S a b :=
  ⟨h.os, h.tape, h.output, h.size, fun k hk _ => h.block k hk⟩

/-- What was made since a may be written at will. -/
theorem Kept.new {S S' : List Nat} {a b : World} (h : Kept S' a b) (hs : ∀ i ∈ S', i ∈ S ∨ a.heap.size ≤ i) : Kept S a b :=
  ⟨h.os, h.tape, h.output, h.size, fun i hi hn => h.block i hi (fun hm => by rcases hs i hm with h1 | h1; exact hn h1; omega)⟩

theorem Row.kept {w w' : World} {b : Nat} {T : TypeId} {cs : List Value} {S : List Nat} (h : Row w b T cs) (hk : Kept S w w') (hb : b ∉ S) : Row w' b T cs :=
  h.of_same (hk.block b h.lt hb)

theorem Kept.cell {S : List Nat} {w w' : World} (hk : Kept S w w') {p : Addr} {v : Value} (h : w.cell? p = some v) (hb : p.block ∉ S) : w'.cell? p = some v :=
  (World.cell?_of_block (hk.block p.block (World.block_lt_of_cell? w p h) hb)).trans h

theorem Kept.grownBy {S : List Nat} {w w' : World} (hk : Kept S w w') {r : Nat} (h : ∀ i ∈ S, i = r) : w.grownBy w' (some r) :=
  ⟨hk.os, hk.tape, hk.output, hk.size, fun k hk' hn => hk.block k hk' (fun hm => hn (by rw [h k hm]))⟩

/-- An owned row lives through what does not write its block. -/
theorem owns_kept {w w' : World} {S : List Nat} {base : Nat} {e : TypeId} {size : Nat} {v : Value} {n : Nat} {xs : List Value} (h : w.ownsRow base e size v n xs) (hk : Kept S w w') (hs : ∀ k, v.ownBlock = some k → k ∉ S) : w'.ownsRow base e size v n xs := by
  refine ⟨h.1, ?_⟩
  rcases h.2 with hn | ⟨g, cap, cur, rfl, hb, hgg, rest⟩
  · exact .inl hn
  · refine .inr ⟨g, cap, cur, rfl, hb, ?_, rest⟩
    rw [hk.block g (Array.getElem?_eq_some_iff.1 hgg).1 (hs g rfl)]
    exact hgg

theorem owns_base {w : World} {base base' : Nat} {e : TypeId} {size : Nat} {v : Value} {n : Nat} {xs : List Value} (h : w.ownsRow base e size v n xs) (hb : base' ≤ base) : w.ownsRow base' e size v n xs := by
  refine ⟨h.1, ?_⟩
  rcases h.2 with hn | ⟨g, cap, cur, hv, hbg, rest⟩
  · exact .inl hn
  · exact .inr ⟨g, cap, cur, hv, by omega, rest⟩

/-- An owned row, taken apart: no array, or one from its head on. -/
theorem owns_slice {w : World} {base : Nat} {e : TypeId} {size : Nat} {v : Value} {n : Nat} {xs : List Value} (h : w.ownsRow base e size v n xs) : ∃ (a : Option Addr) (cap : Nat), v = .slice a n cap ∧ n ≤ cap ∧ cap ≤ maxLen := by
  rcases h.2 with ⟨rfl, rfl⟩ | ⟨g, cap, cur, rfl, _, _, h1, h2, _⟩
  · exact ⟨none, 0, rfl, Nat.le_refl _, by simp [maxLen]⟩
  · exact ⟨_, cap, rfl, h1, h2⟩

/- Rows of things that take s cells each. -/

theorem flat_length {α : Type} {s : Nat} {enc : α → List Value} (hs : ∀ a, (enc a).length = s) (l : List α) : (l.flatMap enc).length = l.length * s := by
  induction l with
  | nil => simp
  | cons a l ih => rw [List.flatMap_cons, List.length_append, hs, ih, List.length_cons, Nat.add_mul]; omega

theorem flat_get {α : Type} {s : Nat} {enc : α → List Value} (hs : ∀ a, (enc a).length = s) (l : List α) (i j : Nat) (a : α) (hi : l[i]? = some a) (hj : j < s) : (l.flatMap enc)[i * s + j]? = (enc a)[j]? := by
  induction l generalizing i with
  | nil => simp at hi
  | cons x l ih =>
    cases i with
    | zero =>
      simp at hi; subst hi
      rw [List.flatMap_cons, List.getElem?_append_left (by rw [hs]; omega)]
      congr 1; omega
    | succ i =>
      rw [List.flatMap_cons, List.getElem?_append_right (by rw [hs, Nat.add_mul]; omega), ← ih i (by simpa using hi), hs]
      congr 1; rw [Nat.add_mul]; omega

theorem flat_set {α : Type} {s : Nat} {enc : α → List Value} (hs : ∀ a, (enc a).length = s) (l : List α) (i j : Nat) (a a' : α) (v : Value) (hi : l[i]? = some a) (hj : j < s) (he : enc a' = (enc a).set j v) : (l.flatMap enc).set (i * s + j) v = (l.set i a').flatMap enc := by
  induction l generalizing i with
  | nil => simp at hi
  | cons x l ih =>
    cases i with
    | zero =>
      simp at hi; subst hi
      rw [List.set_cons_zero, List.flatMap_cons, List.flatMap_cons, List.set_append_left _ _ (by rw [hs]; omega), he]
      congr 2; omega
    | succ i =>
      rw [List.flatMap_cons, List.set_cons_succ, List.flatMap_cons, ← ih i (by simpa using hi), List.set_append_right _ _ (by rw [hs, Nat.add_mul]; omega), hs]
      congr 2; rw [Nat.add_mul]; omega

/-- A slice that came in, of n things of s cells, below block B. -/
def Reads (w : World) (B : Nat) (A : Option Addr) (n s : Nat) (cs : List Value) : Prop :=
  cs.length = n * s ∧ (0 < n → ∃ b off, A = some ⟨b, off, none⟩ ∧ b < B ∧ ∀ j v, cs[j]? = some v → w.cell? ⟨b, off + j, none⟩ = some v)

theorem Reads.kept {w w' : World} {B : Nat} {A : Option Addr} {n s : Nat} {cs : List Value} {S : List Nat} (h : Reads w B A n s cs) (hk : Kept S w w') (hs : ∀ i ∈ S, B ≤ i) : Reads w' B A n s cs := by
  refine ⟨h.1, fun hn => ?_⟩
  obtain ⟨b, off, e, hb, hc⟩ := h.2 hn
  exact ⟨b, off, e, hb, fun j v hj => hk.cell (hc j v hj) (fun hm => by have := hs b hm; omega)⟩

end Go.Proofs.Ytopgfhcgfpceaaa
