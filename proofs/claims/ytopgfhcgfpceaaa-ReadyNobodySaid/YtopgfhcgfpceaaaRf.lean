/- A law on 'range over a function' of this claim's own: an iterator's word by numbers, and the loop over it; over any program. -/
import Derived.Test.YtopgfhcgfpceaaaRngK
import Derived.Maps.OwnIn
namespace Go.Proofs.Ytopgfhcgfpceaaa
open Go.RowKit Go.Shelf

/-- What an iterator and the loop's own books do to the world: what holds cells, and whatever lay below B, stays. -/
structure Iters (B : Nat) (w w' : World) : Prop where
  os : w'.os = w.os
  tape : w'.tape = w.tape
  output : w'.output = w.output
  size : w.heap.size ≤ w'.heap.size
  keep : ∀ k o, w.heap[k]? = some o → (k < B ∨ o.isCells = true) → w'.heap[k]? = some o

theorem Iters.refl (B : Nat) (w : World) : Iters B w w := ⟨rfl, rfl, rfl, Nat.le_refl _, fun _ _ h _ => h⟩
theorem Iters.trans {B : Nat} {a b c : World} (h : Iters B a b) (k : Iters B b c) : Iters B a c :=
  ⟨k.os.trans h.os, k.tape.trans h.tape, k.output.trans h.output, Nat.le_trans h.size k.size, fun i o hi ho => k.keep i o (h.keep i o hi ho) ho⟩
theorem Iters.mono {B B' : Nat} {a b : World} (h : Iters B a b) (hB : B' ≤ B) : Iters B' a b :=
  ⟨h.os, h.tape, h.output, h.size, fun k o hk ho => h.keep k o hk (ho.imp (fun h1 => Nat.lt_of_lt_of_le h1 hB) id)⟩
theorem Iters.putObj {B : Nat} (W : World) (l : Nat) (o o' : Obj) (hl : B ≤ l) (h : W.heap[l]? = some o) (ho : o.isCells = false) : Iters B W (W.putObj l o') := by
  refine ⟨rfl, rfl, rfl, by simp, fun k o2 hk hc => ?_⟩
  rw [World.putObj_heap_other]
  · exact hk
  · rintro rfl
    rw [h] at hk
    injection hk with hk
    subst hk
    rcases hc with h1 | h1
    · omega
    · rw [ho] at h1; cases h1
theorem Iters.of_kept {B : Nat} {a b : World} (h : Kept [] a b) : Iters B a b :=
  ⟨h.os, h.tape, h.output, h.size, fun k o hk _ => (h.block k (Array.getElem?_eq_some_iff.1 hk).1 (by simp)).trans hk⟩
theorem Iters.row {B : Nat} {w w' : World} (h : Iters B w w') {b : Nat} {T : TypeId} {cs : List Value} (hr : Row w b T cs) : Row w' b T cs := h.keep b _ hr (.inr rfl)
theorem Iters.boxed {B : Nat} {w w' : World} (h : Iters B w w') {b : Nat} {T : TypeId} {v : Value} (hr : Boxed w b T v) : Boxed w' b T v := h.keep b _ hr (.inr rfl)
theorem Iters.owns {B : Nat} {w w' : World} (h : Iters B w w') {base e s n : Nat} {v : Value} {xs : List Value} (hr : w.ownsRow base e s v n xs) : w'.ownsRow base e s v n xs := by
  refine ⟨hr.1, ?_⟩
  rcases hr.2 with hn | ⟨g, cap, cur, rfl, hb, hgg, rest⟩
  · exact .inl hn
  · exact .inr ⟨g, cap, cur, rfl, hb, h.keep g _ hgg (.inr rfl), rest⟩
theorem Kept.iters {B : Nat} {S : List Nat} {a w w' : World} (hk : Kept S a w) (h : Iters B w w') (hB : a.heap.size ≤ B) : Kept S a w' :=
  ⟨h.os.trans hk.os, h.tape.trans hk.tape, h.output.trans hk.output, Nat.le_trans hk.size h.size, fun k hk2 hn => by
    have hlt : k < w.heap.size := Nat.lt_of_lt_of_le hk2 hk.size
    have := h.keep k _ (Array.getElem?_eq_getElem hlt) (.inl (by omega))
    rw [this, ← hk.block k hk2 hn, Array.getElem?_eq_getElem hlt]⟩

/-- The loop's own books: its record is written. -/
def Books (l : Nat) (w w' : World) : Prop := ∃ r r' : Loop, w.heap[l]? = some (.loop r) ∧ w' = w.putObj l (.loop r')

theorem Books.iters {l B : Nat} {w w' : World} (h : Books l w w') (hB : B ≤ l) : Iters B w w' := by
  obtain ⟨r, r', h1, rfl⟩ := h
  exact Iters.putObj _ _ _ _ hB h1 rfl

theorem Books.other {l k : Nat} {w w' : World} (h : Books l w w') {o : Obj} (hk : w.heap[k]? = some o) (ho : ∀ r, o ≠ .loop r) : w'.heap[k]? = some o := by
  obtain ⟨r, r', h1, rfl⟩ := h
  rw [World.putObj_heap_other]
  · exact hk
  · rintro rfl
    rw [h1] at hk
    injection hk with hk
    exact ho r hk.symm

/-- An iterator's word: it calls yield at xs, one by one; a round that goes on keeps K. -/
def IterO (P : Program) (n gf : Nat) (lb : Array Value) {α : Type} (encs : α → Array Value) (K : World → World → Prop) (xs : List α) (w : World) : Prop :=
  ∀ (l : Nat) (J Jx : Nat → World → Prop) (W : World), Kept [] w W → (∀ k A B, J k A → Iters W.heap.size A B → J k B) → (∀ k A B, Jx k A → Iters W.heap.size A B → Jx k B) →
    (∀ k x W1, xs[k]? = some x → J k W1 → YieldAt Fence.wide (n - 1) P l (encs x) W1 fun e W' => (e = .returned (.bool true) ∧ J (k + 1) W' ∧ K W1 W') ∨ (e = .returned (.bool false) ∧ Jx (k + 1) W' ∧ K W1 W')) →
    J 0 W → CallsIn Fence.wide n P gf (#[.func (.yield l) #[] #[]] ++ lb) W fun e W' => (∃ v, e = .returned v) ∧ (J xs.length W' ∨ ∃ k, 0 < k ∧ k ≤ xs.length ∧ Jx k W')

theorem IterO.weaken {P : Program} {n gf : Nat} {lb : Array Value} {α : Type} {encs : α → Array Value} {K K' : World → World → Prop} {xs : List α} {w : World} (h : IterO P n gf lb encs K xs w) (hk : ∀ A B, K' A B → K A B) : IterO P n gf lb encs K' xs w :=
  fun l J Jx W hW hJ hJx hY h0 => h l J Jx W hW hJ hJx (fun k x W1 hx hj => (hY k x W1 hx hj).mono fun _ _ hh => hh.imp (fun h1 => ⟨h1.1, h1.2.1, hk _ _ h1.2.2⟩) (fun h1 => ⟨h1.1, h1.2.1, hk _ _ h1.2.2⟩)) h0

theorem IterO.later {P : Program} {n gf : Nat} {lb : Array Value} {α : Type} {encs : α → Array Value} {K : World → World → Prop} {xs : List α} {w w' : World} (h : IterO P n gf lb encs K xs w) (hk : Kept [] w w') : IterO P n gf lb encs K xs w' :=
  fun l J Jx W hW hJ hJx hY h0 => h l J Jx W (hk.trans hW) hJ hJx hY h0

/-- How a round's body may be left: the k-th round began in W. -/
def RPost (B : Nat) (K : World → World → Prop) (I : Nat → World → Prop) (Ix : Nat → Code → World → Prop) (k : Nat) (W w2 : World) : Exit → Act → World → Prop
  | .normal, _, W' => KeepsFrom B w2 W' ∧ K W W' ∧ I (k + 1) W'
  | .ret, _, W' => KeepsFrom B w2 W' ∧ K W W' ∧ Ix (k + 1) .ret W'
  | .exit id, _, W' => KeepsFrom B w2 W' ∧ K W W' ∧ Ix (k + 1) (.exit id) W'
  | .goto t, _, W' => KeepsFrom B w2 W' ∧ K W W' ∧ Ix (k + 1) (.goto t) W'
  | .panic _, _, _ => False
  | .outgrown, _, _ => False

/-- The loop over an iterator that keeps its word. -/
theorem range_law {P : Program} {n : Nat} {α : Type} {g : Operand} {ps : Array Tmp} {assign body : Code} {Q : Exit → Act → World → Prop} {a : Act} {w : World} {gf : Nat} {lb : Array Value}
    (hn : 1 ≤ n) (hg : a.eval g = .func (.func gf) #[] lb) (eg : ∀ args w, (callFunc gf args).run P w = .ok (.enter gf args) w) {encs : α → Array Value} {K : World → World → Prop} {xs : List α}
    (hseq : IterO P (n - 1) gf lb encs K xs w) (hps : ∀ x, (encs x).size = ps.size) (hK : ∀ l A C D, w.heap.size ≤ l → K A C → Books l C D → K A D)
    (I : Nat → World → Prop) (Ix : Nat → Code → World → Prop) (hI : ∀ k A B, I k A → Iters w.heap.size A B → I k B) (hIx : ∀ k c A B, Ix k c A → Iters w.heap.size A B → Ix k c B) (h0 : I 0 w)
    (hround : ∀ (l k : Nat) (x : α) (W : World), w.heap.size ≤ l → xs[k]? = some x → I k W →
      assign.wpIn (Fence.wide.inRound l) (n - 1 - 1) P (Exit.then (fun a1 w1 => KeepsFrom w.heap.size W w1 ∧ ∀ w2, Books l w1 w2 → body.wpIn (Fence.wide.inRound l) (n - 1 - 1) P (RPost w.heap.size K I Ix k W w2) a1 w2) (fun _ _ _ => False))
        { tmps := (ps.zip (encs x)).foldl (fun t (p, v) => t.setIfInBounds p v) a.tmps, defers := [] } W)
    (hdone : ∀ (D : Nat) (W : World), w.heap.size ≤ D → I xs.length W → W.heap[D]? = some (.deferred (some [])) → Q .normal { a with defers := { target := .collected D, args := #[] } :: a.defers } W)
    (hstop : ∀ (D k : Nat) (c : Code) (W : World), w.heap.size ≤ D → 0 < k → k ≤ xs.length → Ix k c W → W.heap[D]? = some (.deferred (some [])) → c.wpIn Fence.wide n P Q { a with defers := { target := .collected D, args := #[] } :: a.defers } W) :
    (Code.rangeFunc g ps assign body).wpIn Fence.wide n P Q a w := by
  refine wpIn_rangeFunc fun fn hfn => ?_
  obtain ⟨rc, hrc⟩ : ∃ rc : LoopState → Option Code → Loop, ∀ s p, rc s p = { state := s, pending := p, fn := fn, tmps := a.tmps, params := ps, assign := assign, body := body, defers := w.heap.size } := ⟨_, fun _ _ => rfl⟩
  obtain ⟨V, hV⟩ : ∃ V, V = (w.alloc (.deferred (some []))).alloc (.loop (rc .ready none)) := ⟨_, rfl⟩
  have hkV : Kept [] w V := by rw [hV]; exact ((Kept.refl _ _).alloc _).alloc _
  have hsV : V.heap.size = w.heap.size + 2 := by rw [hV]; simp
  have hL : V.heap[w.heap.size + 1]? = some (.loop (rc .ready none)) := by
    rw [hV]
    have := World.alloc_heap_new (w.alloc (.deferred (some []))) (.loop (rc .ready none))
    rwa [World.size_alloc] at this
  have hD : V.heap[w.heap.size]? = some (.deferred (some [])) := by
    rw [hV]
    exact (Below.heap_alloc _ _ _ (by simp)).trans (World.alloc_heap_new w _)
  refine ⟨w.heap.size + 1, [{ target := .collected w.heap.size, args := #[] }], V, { target := .fn (.func gf) lb, args := #[.func (.yield (w.heap.size + 1)) #[] #[]] }, V, gf, #[.func (.yield (w.heap.size + 1)) #[] #[]] ++ lb, V, ?_, ?_, fun _ _ => trivial, ?_, fun _ => hn, ?_⟩
  · rw [hV, hrc]
    exact run_enterLoop_outer fn a.tmps ps assign body
  · simp only [resolve, hg]
    simp [go_sem]
  · simp [invoke, go_sem, eg]
  refine (hseq (w.heap.size + 1) (fun k W => I k W ∧ W.heap[w.heap.size + 1]? = some (.loop (rc .ready none)) ∧ W.heap[w.heap.size]? = some (.deferred (some [])))
    (fun k W => ∃ c, Ix k c W ∧ W.heap[w.heap.size + 1]? = some (.loop (rc .done (some c))) ∧ W.heap[w.heap.size]? = some (.deferred (some []))) V hkV ?_ ?_ ?_ ⟨hI _ _ _ h0 (Iters.of_kept hkV), hL, hD⟩).mono ?_
  · rintro k A B ⟨h1, h2, h3⟩ hi
    exact ⟨hI _ _ _ h1 (hi.mono (by omega)), hi.keep _ _ h2 (.inl (by omega)), hi.keep _ _ h3 (.inl (by omega))⟩
  · rintro k A B ⟨c, h1, h2, h3⟩ hi
    exact ⟨c, hIx _ _ _ _ h1 (hi.mono (by omega)), hi.keep _ _ h2 (.inl (by omega)), hi.keep _ _ h3 (.inl (by omega))⟩
  · rintro k x W hx ⟨h1, h2, h3⟩
    have hy := run_yield (P := P) (args := encs x) h2 (by rw [hrc]; exact hps x)
    rw [hrc] at hy
    refine ⟨fn, _, assign, body, hy, roundIn_of_wpIn hfn (wpIn_mono (hround (w.heap.size + 1) k x W (by omega) hx h1) ?_)⟩
    intro e a1 w1 hh
    cases e with
    | normal =>
      obtain ⟨hk1, hb⟩ := hh
      have hl1 := hk1.same _ _ (by omega) h2 rfl
      have hd1 := hk1.same _ _ (Nat.le_refl _) h3 rfl
      have hlt := (Array.getElem?_eq_some_iff.1 hl1).1
      have hi1 : Books (w.heap.size + 1) w1 (w1.putObj (w.heap.size + 1) (.loop { rc .ready none with state := .busy })) := ⟨_, _, hl1, rfl⟩
      refine ⟨_, run_beginRound hl1 (by rw [hrc]), wpIn_mono (hb _ hi1) ?_⟩
      have hl2 : (w1.putObj (w.heap.size + 1) (.loop { rc .ready none with state := .busy })).heap[w.heap.size + 1]? = some (.loop { rc .ready none with state := .busy }) := World.putObj_heap_same hlt
      have hd2 : (w1.putObj (w.heap.size + 1) (.loop { rc .ready none with state := .busy })).heap[w.heap.size]? = some (.deferred (some [])) := (World.putObj_heap_other (by omega)).trans hd1
      have ending : ∀ (j : Option Code) (W3 : World), KeepsFrom w.heap.size (w1.putObj (w.heap.size + 1) (.loop { rc .ready none with state := .busy })) W3 →
          (Instr.endRound (w.heap.size + 1) j).run P W3 = .ok (.bool j.isNone) (W3.putObj (w.heap.size + 1) (.loop (rc (if j.isNone then .ready else .done) j))) ∧ Books (w.heap.size + 1) W3 (W3.putObj (w.heap.size + 1) (.loop (rc (if j.isNone then .ready else .done) j))) ∧
          (W3.putObj (w.heap.size + 1) (.loop (rc (if j.isNone then .ready else .done) j))).heap[w.heap.size + 1]? = some (.loop (rc (if j.isNone then .ready else .done) j)) ∧ (W3.putObj (w.heap.size + 1) (.loop (rc (if j.isNone then .ready else .done) j))).heap[w.heap.size]? = some (.deferred (some [])) := by
        intro j W3 hk3
        have hl3 := hk3.same _ _ (by omega) hl2 rfl
        have hd3 := hk3.same _ _ (Nat.le_refl _) hd2 rfl
        have hr := run_endRound (P := P) j hl3
        rw [hrc] at hr
        refine ⟨by rw [hr, hrc], ⟨_, _, hl3, rfl⟩, World.putObj_heap_same (Array.getElem?_eq_some_iff.1 hl3).1, (World.putObj_heap_other (by omega)).trans hd3⟩
      intro e2 a3 W3 hp
      cases e2 with
      | normal =>
        obtain ⟨q1, q2, q3⟩ := hp
        obtain ⟨r1, r2, r3, r4⟩ := ending none W3 q1
        exact ⟨_, _, r1, .inl ⟨rfl, ⟨hI _ _ _ q3 (r2.iters (by omega)), r3, r4⟩, hK _ _ _ _ (by omega) q2 r2⟩⟩
      | ret =>
        obtain ⟨q1, q3, q2⟩ := hp
        obtain ⟨r1, r2, r3, r4⟩ := ending (some .ret) W3 q1
        exact ⟨_, _, r1, .inr ⟨rfl, ⟨.ret, hIx _ _ _ _ q2 (r2.iters (by omega)), r3, r4⟩, hK _ _ _ _ (by omega) q3 r2⟩⟩
      | exit id =>
        obtain ⟨q1, q3, q2⟩ := hp
        obtain ⟨r1, r2, r3, r4⟩ := ending (some (.exit id)) W3 q1
        exact ⟨_, _, r1, .inr ⟨rfl, ⟨.exit id, hIx _ _ _ _ q2 (r2.iters (by omega)), r3, r4⟩, hK _ _ _ _ (by omega) q3 r2⟩⟩
      | goto t =>
        obtain ⟨q1, q3, q2⟩ := hp
        obtain ⟨r1, r2, r3, r4⟩ := ending (some (.goto t)) W3 q1
        exact ⟨_, _, r1, .inr ⟨rfl, ⟨.goto t, hIx _ _ _ _ q2 (r2.iters (by omega)), r3, r4⟩, hK _ _ _ _ (by omega) q3 r2⟩⟩
      | panic ch => exact hp.elim
      | outgrown => exact hp.elim
    | ret => exact hh.elim
    | exit id => exact hh.elim
    | goto t => exact hh.elim
    | panic ch => exact hh.elim
    | outgrown => exact hh.elim
  · rintro e W2 ⟨⟨v, rfl⟩, ⟨h1, h2, h3⟩ | ⟨k, hk0, hk1, c, h1, h2, h3⟩⟩
    · have hr := run_endLoop (P := P) h2 (by rw [hrc]; simp)
      rw [hrc] at hr
      exact ⟨none, _, hr, hdone _ _ (Nat.le_refl _) (hI _ _ _ h1 (Iters.putObj _ _ _ _ (by omega) h2 rfl)) ((World.putObj_heap_other (by omega)).trans h3)⟩
    · have hr := run_endLoop (P := P) h2 (by rw [hrc]; simp)
      rw [hrc] at hr
      exact ⟨some c, _, hr, hstop _ k c _ (Nat.le_refl _) hk0 hk1 (hIx _ _ _ _ h1 (Iters.putObj _ _ _ _ (by omega) h2 rfl)) ((World.putObj_heap_other (by omega)).trans h3)⟩

/-- What a loop's body keeps; the marks too. -/
structure KpD (X : Nat → Prop) (bx : Nat) (W W' : World) : Prop where
  k : KpX X bx W W'
  d : ∀ (k : Nat) (ds : Option (List Deferred)), W.heap[k]? = some (Obj.deferred ds) → W'.heap[k]? = some (Obj.deferred ds)
  b : ∃ v, W'.cell? ⟨bx, 0, none⟩ = some v

theorem KpD.books {X : Nat → Prop} {bx l : Nat} {A C D : World} (h : KpD X bx A C) (hb : Books l C D) : KpD X bx A D := by
  obtain ⟨v, hv⟩ := h.b
  have hcell : D.heap[bx]? = C.heap[bx]? := by
    obtain ⟨o, h1, h2⟩ := cells_of_cell hv
    have h1 : C.heap[bx]? = some o := h1
    rw [h1]
    exact hb.other h1 (by rintro r rfl; cases h2)
  refine ⟨⟨Nat.le_trans h.k.size (hb.iters (Nat.zero_le _)).size, fun k o hX hk ho hr => hb.other (h.k.same k o hX hk ho hr) (by rintro r rfl; cases ho), fun k hk => ?_⟩, fun k ds hk => hb.other (h.d k ds hk) (by simp), v, ?_⟩
  · rw [boxRow_of hcell] at hk
    exact h.k.row k hk
  · rw [World.cell?_of_block (a := ⟨bx, 0, none⟩) hcell]
    exact hv

theorem KpD.trans {X : Nat → Prop} {bx : Nat} {a b c : World} (h : KpD X bx a b) (k : KpD X bx b c) : KpD X bx a c := ⟨h.k.trans k.k, fun i ds hi => k.d i ds (h.d i ds hi), k.b⟩

/-- The marks that loops over iterators have left. -/
def marks (Ds : List Nat) : List Deferred := Ds.map fun D => { target := .collected D, args := #[] }

theorem leaves_marks {P : Program} {n : Nat} {fn : Func} {tmps : Array Value} {R : Ending → World → Prop} {B : Nat} : ∀ (Ds : List Nat) (W : World), Ds.Nodup → (∀ D ∈ Ds, B ≤ D ∧ W.heap[D]? = some (.deferred (some []))) →
    (∀ W', Iters B W W' → LeavesIn Fence.wide n P fn tmps R [] .returning W') → LeavesInM Fence.wide n P fn tmps R (marks Ds) .returning W
  | [], W, _, _, h => h W (Iters.refl _ _)
  | D :: Ds, W, hnd, hD, h => by
    obtain ⟨h1, h2⟩ := hD D List.mem_cons_self
    rw [List.nodup_cons] at hnd
    refine ⟨by simp, .inl ⟨D, _, rfl, run_takeDeferred h2, ?_⟩⟩
    refine leaves_marks Ds _ hnd.2 (fun E hE => ?_) fun W' hi => h W' ((Iters.putObj W D _ _ h1 h2 rfl).trans hi)
    have h3 := hD E (List.mem_cons_of_mem _ hE)
    refine ⟨h3.1, (World.putObj_heap_other ?_).trans h3.2⟩
    rintro rfl
    exact hnd.1 hE
end Go.Proofs.Ytopgfhcgfpceaaa
