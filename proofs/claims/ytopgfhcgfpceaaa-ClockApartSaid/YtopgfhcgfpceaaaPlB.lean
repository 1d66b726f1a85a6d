/- The laws of clock: 'play' answers true; the calls that set an alarm or cancel it. -/
import Derived.Test.YtopgfhcgfpceaaaPlA
namespace Go.Proofs.Ytopgfhcgfpceaaa
open Go.RowKit

/-- One call on both clocks. -/
def Clk.runP (c : Clk) (x : CAct) : Clk :=
  if x.kind = 1 then (c.rel x.alarm x.a x.b).2
  else if x.kind = 2 then (c.abs x.alarm x.a x.b).2
  else if x.kind = 3 then (c.set x.alarm x.a x.b).2
  else if x.kind = 4 then (c.cancel x.alarm).2
  else if x.kind = 5 then c.tick
  else if x.kind = 7 then { c with value := 0, al := List.replicate c.al.length Alm.zero }
  else c

section
variable {w w1 : World} {pc qc pd qd : Nat} {c c' : Clk}
/-- Behind a call on the clock. -/
theorem Both.left (h : Both w pc qc pd qd c) (hk : Kept [pc, qc] w w1) : RefAt w1 pd qd c ∧ Kept [pc, qc, pd, qd] w w1 :=
  ⟨h.hd.kept hk (by simp [h.n1, h.n2]) (by simp [h.n3, h.n4]), hk.mono (by intro i hi; simp at hi ⊢; omega)⟩
/-- Behind a call on the document's. -/
theorem Both.right (h : Both w pc qc pd qd c) {w2 : World} (hc : ClockAt w1 pc qc c') (hd : RefAt w2 pd qd c') (hk1 : Kept [pc, qc, pd, qd] w w1) (hk : Kept [pd, qd] w1 w2) : Both w2 pc qc pd qd c' ∧ Kept [pc, qc, pd, qd] w w2 :=
  ⟨⟨hc.kept hk (by simp [Ne.symm h.n1, Ne.symm h.n3]) (by simp [Ne.symm h.n2, Ne.symm h.n4]), hd, h.n1, h.n2, h.n3, h.n4, Nat.lt_of_lt_of_le h.n5 (Nat.le_trans hk1.size hk.size)⟩, hk1.trans (hk.mono (by intro i hi; simp at hi ⊢; omega))⟩
end

set_option maxHeartbeats 3200000 in
set_option maxRecDepth 20000 in
theorem law_play1 (w : World) (pc qc pd qd : Nat) (c : Clk) (al A B : Int) (h : Both w pc qc pd qd c) (a0 : 0 ≤ A) (a1 : A ≤ 4294967295) :
    Calls Try.prog 37 #[.pointer (some ⟨pc, 0, none⟩), .pointer (some ⟨pd, 0, none⟩), .agg #[.int .i64 1, .int .i64 al, .int .u32 A, .int .u32 B]] w fun e w' => e = .returned (.bool true) ∧ Both w' pc qc pd qd (c.rel al A B).2 ∧ Kept [pc, qc, pd, qd] w w' := by
  have hb : Both (w.alloc (.cells #[.int .i64 1, .int .i64 al, .int .u32 A, .int .u32 B] 32)).drew pc qc pd qd c := h.kept ((Kept.refl [] w).alloc _).drew (by simp) (by simp) (by simp) (by simp)
  have hk0 : Kept [pc, qc, pd, qd] w (w.alloc (.cells #[.int .i64 1, .int .i64 al, .int .u32 A, .int .u32 B] 32)).drew := ((Kept.refl _ w).alloc _).drew
  have hrow : Row (w.alloc (.cells #[.int .i64 1, .int .i64 al, .int .u32 A, .int .u32 B] 32)).drew w.heap.size 32 [.int .i64 1, .int .i64 al, .int .u32 A, .int .u32 B] := Row.drew (Row.new' rfl)
  have hrel := ck_Rel _ pc qc c al A B hb.hc a0 a1
  have b1 := h.hc.row.lt
  have b2 := h.hc.arow.lt
  have b3 := h.hd.lt
  have b4 := h.n5
  have hnc : w.heap.size ∉ [pc, qc] := by simp; omega
  have hnd : w.heap.size ∉ [qd] := by simp; omega
  have hrr : ((c.rel al A B).1 == (c.rel al A B).1) = true := by simp
  have fin : ∀ w1 w2, ClockAt w1 pc qc (c.rel al A B).2 → Kept [qc] (w.alloc (.cells #[.int .i64 1, .int .i64 al, .int .u32 A, .int .u32 B] 32)).drew w1 → RefAt w2 pd qd (c.rel al A B).2 → Kept [qd] w1 w2 → Both w2 pc qc pd qd (c.rel al A B).2 ∧ Kept [pc, qc, pd, qd] w w2 := by
    intro w1 w2 h1 h2 h3 h4
    obtain ⟨h5, h6⟩ := hb.left (kq h2)
    have := hb.right h1 h3 h6 (h4.mono (by simp))
    exact ⟨this.1, hk0.trans this.2⟩
  have hd1 : ∀ w1, Kept [qc] (w.alloc (.cells #[.int .i64 1, .int .i64 al, .int .u32 A, .int .u32 B] 32)).drew w1 → RefAt w1 pd qd c ∧ Row w1 w.heap.size 32 [.int .i64 1, .int .i64 al, .int .u32 A, .int .u32 B] := fun w1 h2 => ⟨(hb.left (kq h2)).1, hrow.kept (kq h2) hnc⟩
  clear h hb hk0 hrow
  go_enter Try.func37, Try.ntmps37
  go_wp2_with (fail)
  go_region_held3 (fun w' => w'.cell? ⟨w.heap.size, 1, none⟩ = some (.int .i64 al) ∧ w'.cell? ⟨w.heap.size, 2, none⟩ = some (.int .u32 A) ∧ w'.cell? ⟨w.heap.size, 3, none⟩ = some (.int .u32 B)) (go_keep) ((first | (with_reducible refine hrel.mono ?_; rintro e w1 ⟨rfl, h3, h4⟩; obtain ⟨hd2, hr2⟩ := hd1 _ h4; have s1 : w1.cell? ⟨w.heap.size, 1, none⟩ = some (.int .i64 al) := hr2.cell rfl; have s2 : w1.cell? ⟨w.heap.size, 2, none⟩ = some (.int .u32 A) := hr2.cell rfl; have s3 : w1.cell? ⟨w.heap.size, 3, none⟩ = some (.int .u32 B) := hr2.cell rfl; have hdrel := rf_Rel w1 pd qd c al A B hd2 a0 a1) | (with_reducible refine hdrel.mono ?_; rintro e w2 ⟨rfl, h5, h6⟩; have hr3 := hr2.kept h6 hnd; have t1 : w2.cell? ⟨w.heap.size, 1, none⟩ = some (.int .i64 al) := hr3.cell rfl; have t2 : w2.cell? ⟨w.heap.size, 2, none⟩ = some (.int .u32 A) := hr3.cell rfl; have t3 : w2.cell? ⟨w.heap.size, 3, none⟩ = some (.int .u32 B) := hr3.cell rfl)))
  all_goals go_wp2
  all_goals go_ret
  all_goals exact ⟨by rw [← hrr]; rfl, fin _ _ h3 h4 h5 h6⟩

set_option maxHeartbeats 3200000 in
set_option maxRecDepth 20000 in
theorem law_play2 (w : World) (pc qc pd qd : Nat) (c : Clk) (al A B : Int) (h : Both w pc qc pd qd c) (a0 : 0 ≤ A) (a1 : A ≤ 4294967295) :
    Calls Try.prog 37 #[.pointer (some ⟨pc, 0, none⟩), .pointer (some ⟨pd, 0, none⟩), .agg #[.int .i64 2, .int .i64 al, .int .u32 A, .int .u32 B]] w fun e w' => e = .returned (.bool true) ∧ Both w' pc qc pd qd (c.abs al A B).2 ∧ Kept [pc, qc, pd, qd] w w' := by
  have hb : Both (w.alloc (.cells #[.int .i64 2, .int .i64 al, .int .u32 A, .int .u32 B] 32)).drew pc qc pd qd c := h.kept ((Kept.refl [] w).alloc _).drew (by simp) (by simp) (by simp) (by simp)
  have hk0 : Kept [pc, qc, pd, qd] w (w.alloc (.cells #[.int .i64 2, .int .i64 al, .int .u32 A, .int .u32 B] 32)).drew := ((Kept.refl _ w).alloc _).drew
  have hrow : Row (w.alloc (.cells #[.int .i64 2, .int .i64 al, .int .u32 A, .int .u32 B] 32)).drew w.heap.size 32 [.int .i64 2, .int .i64 al, .int .u32 A, .int .u32 B] := Row.drew (Row.new' rfl)
  have hrel := ck_Abs _ pc qc c al A B hb.hc a0 a1
  have b1 := h.hc.row.lt
  have b2 := h.hc.arow.lt
  have b3 := h.hd.lt
  have b4 := h.n5
  have hnc : w.heap.size ∉ [pc, qc] := by simp; omega
  have hnd : w.heap.size ∉ [qd] := by simp; omega
  have hrr : ((c.abs al A B).1 == (c.abs al A B).1) = true := by simp
  have fin : ∀ w1 w2, ClockAt w1 pc qc (c.abs al A B).2 → Kept [qc] (w.alloc (.cells #[.int .i64 2, .int .i64 al, .int .u32 A, .int .u32 B] 32)).drew w1 → RefAt w2 pd qd (c.abs al A B).2 → Kept [qd] w1 w2 → Both w2 pc qc pd qd (c.abs al A B).2 ∧ Kept [pc, qc, pd, qd] w w2 := by
    intro w1 w2 h1 h2 h3 h4
    obtain ⟨h5, h6⟩ := hb.left (kq h2)
    have := hb.right h1 h3 h6 (h4.mono (by simp))
    exact ⟨this.1, hk0.trans this.2⟩
  have hd1 : ∀ w1, Kept [qc] (w.alloc (.cells #[.int .i64 2, .int .i64 al, .int .u32 A, .int .u32 B] 32)).drew w1 → RefAt w1 pd qd c ∧ Row w1 w.heap.size 32 [.int .i64 2, .int .i64 al, .int .u32 A, .int .u32 B] := fun w1 h2 => ⟨(hb.left (kq h2)).1, hrow.kept (kq h2) hnc⟩
  clear h hb hk0 hrow
  go_enter Try.func37, Try.ntmps37
  go_wp2_with (fail)
  go_region_held3 (fun w' => w'.cell? ⟨w.heap.size, 1, none⟩ = some (.int .i64 al) ∧ w'.cell? ⟨w.heap.size, 2, none⟩ = some (.int .u32 A) ∧ w'.cell? ⟨w.heap.size, 3, none⟩ = some (.int .u32 B)) (go_keep) ((first | (with_reducible refine hrel.mono ?_; rintro e w1 ⟨rfl, h3, h4⟩; obtain ⟨hd2, hr2⟩ := hd1 _ h4; have s1 : w1.cell? ⟨w.heap.size, 1, none⟩ = some (.int .i64 al) := hr2.cell rfl; have s2 : w1.cell? ⟨w.heap.size, 2, none⟩ = some (.int .u32 A) := hr2.cell rfl; have s3 : w1.cell? ⟨w.heap.size, 3, none⟩ = some (.int .u32 B) := hr2.cell rfl; have hdrel := rf_Abs w1 pd qd c al A B hd2 a0 a1) | (with_reducible refine hdrel.mono ?_; rintro e w2 ⟨rfl, h5, h6⟩; have hr3 := hr2.kept h6 hnd; have t1 : w2.cell? ⟨w.heap.size, 1, none⟩ = some (.int .i64 al) := hr3.cell rfl; have t2 : w2.cell? ⟨w.heap.size, 2, none⟩ = some (.int .u32 A) := hr3.cell rfl; have t3 : w2.cell? ⟨w.heap.size, 3, none⟩ = some (.int .u32 B) := hr3.cell rfl)))
  all_goals go_wp2
  all_goals go_ret
  all_goals exact ⟨by rw [← hrr]; rfl, fin _ _ h3 h4 h5 h6⟩

set_option maxHeartbeats 3200000 in
set_option maxRecDepth 20000 in
theorem law_play3 (w : World) (pc qc pd qd : Nat) (c : Clk) (al A B : Int) (h : Both w pc qc pd qd c) (a0 : 0 ≤ A) (a1 : A ≤ 4294967295) (b0 : 0 ≤ B) :
    Calls Try.prog 37 #[.pointer (some ⟨pc, 0, none⟩), .pointer (some ⟨pd, 0, none⟩), .agg #[.int .i64 3, .int .i64 al, .int .u32 A, .int .u32 B]] w fun e w' => e = .returned (.bool true) ∧ Both w' pc qc pd qd (c.set al A B).2 ∧ Kept [pc, qc, pd, qd] w w' := by
  have hb : Both (w.alloc (.cells #[.int .i64 3, .int .i64 al, .int .u32 A, .int .u32 B] 32)).drew pc qc pd qd c := h.kept ((Kept.refl [] w).alloc _).drew (by simp) (by simp) (by simp) (by simp)
  have hk0 : Kept [pc, qc, pd, qd] w (w.alloc (.cells #[.int .i64 3, .int .i64 al, .int .u32 A, .int .u32 B] 32)).drew := ((Kept.refl _ w).alloc _).drew
  have hrow : Row (w.alloc (.cells #[.int .i64 3, .int .i64 al, .int .u32 A, .int .u32 B] 32)).drew w.heap.size 32 [.int .i64 3, .int .i64 al, .int .u32 A, .int .u32 B] := Row.drew (Row.new' rfl)
  have hrel := ck_Set _ pc qc c al A B hb.hc a0 a1 b0
  have b1 := h.hc.row.lt
  have b2 := h.hc.arow.lt
  have b3 := h.hd.lt
  have b4 := h.n5
  have hnc : w.heap.size ∉ [pc, qc] := by simp; omega
  have hnd : w.heap.size ∉ [qd] := by simp; omega
  have hrr : ((c.set al A B).1 == (c.set al A B).1) = true := by simp
  have fin : ∀ w1 w2, ClockAt w1 pc qc (c.set al A B).2 → Kept [qc] (w.alloc (.cells #[.int .i64 3, .int .i64 al, .int .u32 A, .int .u32 B] 32)).drew w1 → RefAt w2 pd qd (c.set al A B).2 → Kept [qd] w1 w2 → Both w2 pc qc pd qd (c.set al A B).2 ∧ Kept [pc, qc, pd, qd] w w2 := by
    intro w1 w2 h1 h2 h3 h4
    obtain ⟨h5, h6⟩ := hb.left (kq h2)
    have := hb.right h1 h3 h6 (h4.mono (by simp))
    exact ⟨this.1, hk0.trans this.2⟩
  have hd1 : ∀ w1, Kept [qc] (w.alloc (.cells #[.int .i64 3, .int .i64 al, .int .u32 A, .int .u32 B] 32)).drew w1 → RefAt w1 pd qd c ∧ Row w1 w.heap.size 32 [.int .i64 3, .int .i64 al, .int .u32 A, .int .u32 B] := fun w1 h2 => ⟨(hb.left (kq h2)).1, hrow.kept (kq h2) hnc⟩
  clear h hb hk0 hrow
  go_enter Try.func37, Try.ntmps37
  go_wp2_with (fail)
  go_region_held3 (fun w' => w'.cell? ⟨w.heap.size, 1, none⟩ = some (.int .i64 al) ∧ w'.cell? ⟨w.heap.size, 2, none⟩ = some (.int .u32 A) ∧ w'.cell? ⟨w.heap.size, 3, none⟩ = some (.int .u32 B)) (go_keep) ((first | (with_reducible refine hrel.mono ?_; rintro e w1 ⟨rfl, h3, h4⟩; obtain ⟨hd2, hr2⟩ := hd1 _ h4; have s1 : w1.cell? ⟨w.heap.size, 1, none⟩ = some (.int .i64 al) := hr2.cell rfl; have s2 : w1.cell? ⟨w.heap.size, 2, none⟩ = some (.int .u32 A) := hr2.cell rfl; have s3 : w1.cell? ⟨w.heap.size, 3, none⟩ = some (.int .u32 B) := hr2.cell rfl; have hdrel := rf_Set w1 pd qd c al A B hd2 a0 a1 b0) | (with_reducible refine hdrel.mono ?_; rintro e w2 ⟨rfl, h5, h6⟩; have hr3 := hr2.kept h6 hnd; have t1 : w2.cell? ⟨w.heap.size, 1, none⟩ = some (.int .i64 al) := hr3.cell rfl; have t2 : w2.cell? ⟨w.heap.size, 2, none⟩ = some (.int .u32 A) := hr3.cell rfl; have t3 : w2.cell? ⟨w.heap.size, 3, none⟩ = some (.int .u32 B) := hr3.cell rfl)))
  all_goals go_wp2
  all_goals go_ret
  all_goals exact ⟨by rw [← hrr]; rfl, fin _ _ h3 h4 h5 h6⟩

theorem ck_Cancel' (w : World) (p q : Nat) (c : Clk) (n : Int) (h : ClockAt w p q c) :
    Calls Try.prog 114 #[.pointer (some ⟨p, 0, none⟩), .int .i64 n] w fun e w' => e = .returned (.int .i64 (c.cancel n).1) ∧ ClockAt w' p q (c.cancel n).2 ∧ Kept [q] w w' :=
  ck_Cancel w p q c n h _ fun _ h1 h2 => ⟨rfl, h1, h2⟩

set_option maxHeartbeats 3200000 in
set_option maxRecDepth 20000 in
theorem law_play4 (w : World) (pc qc pd qd : Nat) (c : Clk) (al A B : Int) (h : Both w pc qc pd qd c) :
    Calls Try.prog 37 #[.pointer (some ⟨pc, 0, none⟩), .pointer (some ⟨pd, 0, none⟩), .agg #[.int .i64 4, .int .i64 al, .int .u32 A, .int .u32 B]] w fun e w' => e = .returned (.bool true) ∧ Both w' pc qc pd qd (c.cancel al).2 ∧ Kept [pc, qc, pd, qd] w w' := by
  have hb : Both (w.alloc (.cells #[.int .i64 4, .int .i64 al, .int .u32 A, .int .u32 B] 32)).drew pc qc pd qd c := h.kept ((Kept.refl [] w).alloc _).drew (by simp) (by simp) (by simp) (by simp)
  have hk0 : Kept [pc, qc, pd, qd] w (w.alloc (.cells #[.int .i64 4, .int .i64 al, .int .u32 A, .int .u32 B] 32)).drew := ((Kept.refl _ w).alloc _).drew
  have hrow : Row (w.alloc (.cells #[.int .i64 4, .int .i64 al, .int .u32 A, .int .u32 B] 32)).drew w.heap.size 32 [.int .i64 4, .int .i64 al, .int .u32 A, .int .u32 B] := Row.drew (Row.new' rfl)
  have hrel := ck_Cancel' _ pc qc c al hb.hc
  have b1 := h.hc.row.lt
  have b2 := h.hc.arow.lt
  have b3 := h.hd.lt
  have b4 := h.n5
  have hnc : w.heap.size ∉ [pc, qc] := by simp; omega
  have hnd : w.heap.size ∉ [qd] := by simp; omega
  have hrr : ((c.cancel al).1 == (c.cancel al).1) = true := by simp
  have fin : ∀ w1 w2, ClockAt w1 pc qc (c.cancel al).2 → Kept [qc] (w.alloc (.cells #[.int .i64 4, .int .i64 al, .int .u32 A, .int .u32 B] 32)).drew w1 → RefAt w2 pd qd (c.cancel al).2 → Kept [qd] w1 w2 → Both w2 pc qc pd qd (c.cancel al).2 ∧ Kept [pc, qc, pd, qd] w w2 := by
    intro w1 w2 h1 h2 h3 h4
    obtain ⟨h5, h6⟩ := hb.left (kq h2)
    have := hb.right h1 h3 h6 (h4.mono (by simp))
    exact ⟨this.1, hk0.trans this.2⟩
  have hd1 : ∀ w1, Kept [qc] (w.alloc (.cells #[.int .i64 4, .int .i64 al, .int .u32 A, .int .u32 B] 32)).drew w1 → RefAt w1 pd qd c ∧ Row w1 w.heap.size 32 [.int .i64 4, .int .i64 al, .int .u32 A, .int .u32 B] := fun w1 h2 => ⟨(hb.left (kq h2)).1, hrow.kept (kq h2) hnc⟩
  clear h hb hk0 hrow
  go_enter Try.func37, Try.ntmps37
  go_wp2_with (fail)
  go_region_held3 (fun w' => w'.cell? ⟨w.heap.size, 1, none⟩ = some (.int .i64 al)) (go_keep) ((first | (with_reducible refine hrel.mono ?_; rintro e w1 ⟨rfl, h3, h4⟩; obtain ⟨hd2, hr2⟩ := hd1 _ h4; have s1 : w1.cell? ⟨w.heap.size, 1, none⟩ = some (.int .i64 al) := hr2.cell rfl; have hdrel := rf_Cancel w1 pd qd c al hd2) | (with_reducible refine hdrel.mono ?_; rintro e w2 ⟨rfl, h5, h6⟩; have hr3 := hr2.kept h6 hnd; have t1 : w2.cell? ⟨w.heap.size, 1, none⟩ = some (.int .i64 al) := hr3.cell rfl)))
  all_goals go_wp2
  all_goals go_ret
  all_goals exact ⟨by rw [← hrr]; rfl, fin _ _ h3 h4 h5 h6⟩

end Go.Proofs.Ytopgfhcgfpceaaa
