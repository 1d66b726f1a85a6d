/- The walk of package ready: Ring: the ids of a ring, collected. -/
import Derived.Test.YtopgfhcgfpceaaaQmJ
import Derived.Maps.OwnIn
namespace Go.Proofs.Ytopgfhcgfpceaaa
open Go.RowKit Go.Shelf

variable {m : Bool}

attribute [local go_sem] Oper.semAt_some

theorem ring_stops_any {w : World} {b : Nat} {pp qq : Nat → Nat} {qs : List QR} {bits : Nat} (h : QAtB m w b pp qq qs bits) (p : Int) (n : Nat) (hn : 1 ≤ n) (Bn : Nat) (X : Nat → Prop) (bx : Nat) (hX : ∀ k, X k → k < w.heap.size) (hbx : ∀ k, boxRow w bx = some k → k < w.heap.size) (hbl : bx < w.heap.size)
    (hBl : Bn < w.heap.size) (hBn : w.cell? ⟨Bn, 0, none⟩ = some (.pointer (qptr pp qs p))) :
    SeqStopsK Fence.wide n Try.prog 199 #[.pointer (some ⟨Bn, 0, none⟩)] (fun x : Int => #[Value.int .i64 x]) (KpX X bx) (fun ys => ys = qring qs p) (fun pre => pre <+: qring qs p) (qring qs p).length w := by
  unfold qptr at hBn
  unfold qring
  cases hf : qfind qs p with
  | none =>
    rw [hf] at hBn
    exact rg_All_stops_nil n hn Bn X bx w hBl hBn
  | some i =>
    obtain ⟨r, h1, _⟩ := qfind_some hf
    rw [hf] at hBn
    obtain ⟨g, h3, h4, h5, h6, h7⟩ := h.ring i r h1
    have := rg_All_stops n hn Bn X bx _ _ g w h3 hX hbx hbl hBl hBn
    rw [h5] at this
    simp only [h1]
    exact this

/-- A slice that a loop collects, in its box. -/
def Coll (base bx : Nat) (T e : TypeId) (s : Nat) {α : Type} (enc : α → List Value) (pre : List α) (W : World) : Prop := ∃ v, Boxed W bx T v ∧ W.ownsRow base e s v pre.length (pre.flatMap enc)

theorem Coll.own (base bx : Nat) (T e : TypeId) (s : Nat) {α : Type} (enc : α → List Value) : Own (fun pre W => Coll base bx T e s enc pre W) := by
  intro pre W W' row hs hg hr
  obtain ⟨v, h1, h2⟩ := holdsRow_own base bx T e s (fun pre : List α => pre.length) (fun pre => pre.flatMap enc) (fun _ _ => True) pre W W' row (by obtain ⟨v, h1, h2⟩ := hs; exact ⟨v, h1, h2, trivial⟩) hg hr
  exact ⟨v, h1, h2.1⟩

theorem boxRow_box {W : World} {bx : Nat} {T : TypeId} {v : Value} (h : Boxed W bx T v) : boxRow W bx = v.ownBlock := by
  unfold boxRow
  rw [h.cell]
  rfl

theorem owns_block_lt {W : World} {base e s n k : Nat} {v : Value} {xs : List Value} (h : W.ownsRow base e s v n xs) (hk : v.ownBlock = some k) : k < W.heap.size := (h.lt k hk).2

/-- Behind the append and the store into the box. -/
theorem Coll.put {W w1 : World} {base bx : Nat} {T e : TypeId} {s : Nat} {α : Type} {enc : α → List Value} {pre : List α} {x : α} {v v' : Value} {tmp : Obj} (hv : Boxed W bx T v) (hte : T ≠ e) (hrow : W.ownsRow base e s v pre.length (pre.flatMap enc)) (hb : base ≤ W.heap.size) (hB : base ≤ bx)
    (hown : w1.ownsRow base e s v' (pre.length + 1) (pre.flatMap enc ++ enc x)) (hgrow : (W.alloc tmp).grownBy w1 v.ownBlock) (hat : v'.ownBlock = v.ownBlock ∨ v'.ownBlock = some (W.alloc tmp).heap.size) (X : Nat → Prop) (hX : X bx) :
    KeepsOthers W (w1.setCell ⟨bx, 0, none⟩ v') ∧ KpX X bx W (w1.setCell ⟨bx, 0, none⟩ v') ∧ Coll base bx T e s enc (pre ++ [x]) (w1.setCell ⟨bx, 0, none⟩ v') ∧ Below base W (w1.setCell ⟨bx, 0, none⟩ v') := by
  obtain ⟨h1, h2, h3, h4, h5⟩ := hv.appended hte hrow hb hB hown hgrow
  refine ⟨h4, ⟨h5.size, fun k o hXk hk ho hr => ?_, fun k hk => ?_⟩, ⟨v', h2, by simpa using h3⟩, h5⟩
  · have hne : k ≠ bx := fun e => hXk (e ▸ hX)
    rw [boxRow_box hv] at hr
    have hkl := (Array.getElem?_eq_some_iff.1 hk).1
    rw [Below.heap_setCell w1 ⟨bx, 0, none⟩ v' k hne, hgrow.block k (by simp; omega) (Ne.symm hr), Below.heap_alloc W tmp k hkl]
    exact hk
  · rw [boxRow_box h2] at hk
    rw [boxRow_box hv]
    rcases hat with e | e
    · exact .inl (e ▸ hk)
    · rw [e, World.size_alloc] at hk
      injection hk with hk
      exact .inr (by omega)

set_option maxRecDepth 100000 in
set_option maxHeartbeats 2000000 in
theorem q_Ring (w : World) (b : Nat) (pp qq : Nat → Nat) (qs : List QR) (bits : Nat) (p : Int) (h : QAtB m w b pp qq qs bits) :
    Calls Try.prog 123 #[.pointer (some ⟨b, 0, none⟩), .int .i64 p] w fun e w' => ∃ v, e = .returned v ∧ w'.ownsRow w.heap.size 3 1 v (qring qs p).length ((qring qs p).flatMap fun x => [Value.int .i64 x]) ∧ Kept [] w w' := by
  obtain ⟨i0, hi, hz0, hz1, hz2⟩ := info_parts Try.info3
  have hlen := qring_len h.wf p
  have k1 : Kept [] w (w.alloc (.cells #[.slice none 0 0] 35)) := (Kept.refl _ _).alloc _
  have ha := q_at _ b pp qq qs bits p (h.kept k1 (by simp))
  have k2 : Kept [] w ((w.alloc (.cells #[.slice none 0 0] 35)).alloc (.cells #[.pointer (qptr pp qs p)] 90)) := k1.alloc _
  have bO := Boxed.new w 35 (.slice none 0 0)
  have bN := Boxed.new (w.alloc (.cells #[.slice none 0 0] 35)) 90 (.pointer (qptr pp qs p))
  rw [World.size_alloc] at bN
  have bO2 := bO.alloc (.cells #[.pointer (qptr pp qs p)] 90)
  have hstops := ring_stops_any (h.kept k2 (by simp)) p 4 (by omega) (w.heap.size + 1) (fun k => k = w.heap.size) w.heap.size (by simp; omega) (fun k hk => by rw [boxRow_box bO2] at hk; cases hk) (by simp; omega) (by simp) bN.cell
  have hf1 : Fence.wide.fn 104 := trivial
  have hf2 : Fence.wide.fn 105 := trivial
  have hw0 : Fence.wide.depth.isSome = false := rfl
  have hn5 : 1 ≤ 5 := by omega
  generalize hxs : qring qs p = xs at *
  generalize hq : qptr pp qs p = a at *
  clear h hxs hq
  refine callsIn_wide.1 (?_ : CallsIn Fence.wide 5 Try.prog _ _ _ _)
  refine callsIn_of_wp_marks Try.func123 rfl trivial ?_ rfl
  simp only [Try.ntmps123, List.size_toArray, List.length_cons, List.length_nil, Nat.reduceAdd, Nat.reduceSub, Array.replicate_succ, Array.replicate_zero, List.push_toArray, List.append_toArray, List.nil_append, List.cons_append]
  gi_wp2_with (first | (gi_at_call 104; refine (callsIn_wide.2 ha).mono ?_; rintro e w' ⟨rfl, rfl⟩) | (gi_at_call 105; refine (callsIn_wide.2 (rg_All _ _)).mono ?_; rintro e w' ⟨rfl, rfl⟩))
  have hB0 : Below w.heap.size w ((w.alloc (.cells #[.slice none 0 0] 35)).alloc (.cells #[.pointer a] 90)) := k2.below
  have hsz : ((w.alloc (.cells #[.slice none 0 0] 35)).alloc (.cells #[.pointer a] 90)).heap.size = w.heap.size + 2 := by simp
  refine wpIn_rangeFunc_ownG rfl (by omega) (gf := 199) (lb := #[.pointer (some ⟨w.heap.size + 1, 0, none⟩)]) rfl trivial (enters_of Try.func199 (by kernel_rfl) rfl)
    hstops KpX.trans (fun W l o o' hl h1 h2 _ => KpX.putObj W l o o' h1 h2 (by rw [hsz] at hl; omega)) (Below.refl _ _) (fun _ => rfl)
    (fun pre W => Coll w.heap.size w.heap.size 35 3 1 (fun x : Int => [Value.int .i64 x]) pre W ∧ Below w.heap.size w W)
    (fun _ _ _ => False)
    (OwnFrom.and (Own.from (Coll.own _ _ _ _ _ _) _) (ownFrom_below (Nat.le_refl _) (by rw [hsz]; omega)))
    (fun _ _ _ _ _ hs _ _ => hs)
    ⟨⟨_, bO2, World.ownsRow_nil _ _ _ _⟩, hB0⟩
    (fun x => { tmps := #[.pointer (some ⟨b, 0, none⟩), .int .i64 p, undef, undef, .slice none 0 0, .pointer (some ⟨w.heap.size, 0, none⟩), .int .i64 x, .pointer (some ⟨b, 0, none⟩), .int .i64 p, .pointer a, .func (.func 199) #[] #[.pointer (some ⟨w.heap.size + 1, 0, none⟩)], .int .i64 x, undef, undef, undef, undef, undef], defers := [] }) ?assign ?body ?done ?stop
  case assign =>
    intro l x W K hK
    gi_wp2
    exact hK
  case body =>
    rintro l pre x W ⟨⟨v, hv, hrow⟩, hB⟩ hlt
    have hc := hv.cell
    have hBs := hB.size
    clear hstops ha hB0 k1 k2 bO bN bO2
    gi_wp2_with (gi_at_builtin; go_loud (refine wpListIn_append_own_at _ rfl (.tmp 12) (.tmp 14) 35 rfl w.heap.size 3 i0 (.int .i64 0) 1 8 Try.underlying35 hi hz0 hz1 hz2 rfl (by decide) _ _ _ rfl (hrow.alloc _) ⟨W.heap.size, 0, none⟩ 1 1 [.int .i64 x] rfl rfl (cell_one_new _ _ _) (by simp [Value.oneCell']) (by unfold maxLen; omega) (by omega) (by simp; omega) ?_; intro v' w1 hown' hgrow hnil hat; obtain ⟨g', cap', rfl⟩ := ownsRow_succ hown'; have hp := Coll.put (enc := fun x : Int => [Value.int .i64 x]) hv (by decide) hrow hBs (Nat.le_refl _) hown' hgrow hat (fun k => k = w.heap.size) rfl; have hv1 := (hv.appended (by decide) hrow hBs (Nat.le_refl _) hown' hgrow).1; have hc1 := hv1.cell; have hf1 := hv1.frozen; clear hown' hgrow hnil hat))
    exact ⟨hp.1.from _, hp.2.1, hp.2.2.1, hB.trans hp.2.2.2⟩
  case done =>
    rintro D ys W hD rfl ⟨⟨v, hv, hrow⟩, hB⟩ hK
    have hc := hv.cell
    clear hstops ha hB0 k1 k2 bO bN bO2
    gi_wp2
    refine ⟨by simp, .inl ⟨_, _, rfl, run_takeDeferred hK, ?_⟩⟩
    refine ⟨_, results_tmp rfl _ _ _, v, rfl, ownsRow_putObj hrow _ hK rfl, Kept.of_below (hB.trans (belowK_b (w := w) (Nat.le_refl _) W D _ _ (by rw [hsz] at hD; omega) hK rfl rfl)) _⟩
  case stop =>
    rintro D c pre W _ _ h _
    exact h.elim
end Go.Proofs.Ytopgfhcgfpceaaa
