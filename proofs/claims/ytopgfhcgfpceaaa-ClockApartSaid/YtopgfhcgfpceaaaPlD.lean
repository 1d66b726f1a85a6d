/- The laws of clock: 'play' answers true; Coming. -/
import Derived.Test.YtopgfhcgfpceaaaPlC
namespace Go.Proofs.Ytopgfhcgfpceaaa
open Go.RowKit

/-- Between two rounds of the loop that compares what both Comings told and clears the one. -/
def Play6 (w : World) (pc qc pd qd B1 B2 : Nat) (c : Clk) (L : List (Int × Nat)) (v u : Value) (i : Nat) (wr : World) : Prop :=
  ∃ ys, wr.ownsRow B1 41 2 v L.length ys ∧ (∀ j, i * 2 ≤ j → ys[j]? = (L.flatMap encE)[j]?) ∧ wr.ownsRow B2 41 2 u L.length (L.flatMap encE) ∧ (∀ g, v.ownBlock = some g → g < B2) ∧ Both wr pc qc pd qd c ∧ Kept [pc, qc, pd, qd] w wr

theorem Play6.round {w wr : World} {pc qc pd qd B1 B2 : Nat} {c : Clk} {L : List (Int × Nat)} {a1 a2 : Option Addr} {c1 c2 : Nat} {i : Nat} (h : Play6 w pc qc pd qd B1 B2 c L (.slice a1 L.length c1) (.slice a2 L.length c2) i wr)
    (h1 : pc < B1) (h2 : qc < B1) (h3 : pd < B1) (h4 : qd < B1) (hB : w.heap.size ≤ B1) (hi : i < L.length) :
    ∃ g1 g2, a1 = some ⟨g1, 0, none⟩ ∧ a2 = some ⟨g2, 0, none⟩ ∧ wr.cell? ⟨g1, i * 2, none⟩ = some (.int .u64 L[i].1) ∧ wr.cell? ⟨g1, i * 2 + 1, none⟩ = some (.int .i64 (L[i].2 : Nat)) ∧ wr.cell? ⟨g2, i * 2, none⟩ = some (.int .u64 L[i].1) ∧ wr.cell? ⟨g2, i * 2 + 1, none⟩ = some (.int .i64 (L[i].2 : Nat)) ∧
      wr.frozen? ⟨g1, i * 2, none⟩ = false ∧ wr.frozen? ⟨g1, i * 2 + 1, none⟩ = false ∧ g1 < wr.heap.size ∧
      ∀ u v n, Play6 w pc qc pd qd B1 B2 c L (.slice a1 L.length c1) (.slice a2 L.length c2) (i + 1) (((wr.drewN n).setCell ⟨g1, i * 2, none⟩ u).setCell ⟨g1, i * 2 + 1, none⟩ v) := by
  obtain ⟨ys, hO, hy, hO2, hlt, hBo, hK⟩ := h
  obtain ⟨g, cap', e⟩ := Go.Joins.ownsRow_form hO (by omega)
  injection e with e1 e2 e3
  subst e1 e3
  have hl := hO.lt g rfl
  have hly := hO.1
  have hx := List.getElem?_eq_getElem hi
  obtain ⟨g2, rfl, hg2, t0, t1⟩ := exp_cells hO2 i _ hx rfl
  have hl2 := hO2.lt g2 rfl
  have hgl := hlt g rfl
  have s0 : wr.cell? ⟨g, i * 2, none⟩ = some (.int .u64 L[i].1) := by
    rw [hO.cellAt _ (by omega), hy _ (Nat.le_refl _), show i * 2 = i * 2 + 0 by omega, flat_get encE_length _ i 0 _ hx (by omega)]
    rfl
  have s1 : wr.cell? ⟨g, i * 2 + 1, none⟩ = some (.int .i64 (L[i].2 : Nat)) := by
    rw [hO.cellAt _ (by omega), hy _ (by omega), flat_get encE_length _ i 1 _ hx (by omega)]
    rfl
  refine ⟨g, g2, rfl, rfl, s0, s1, t0, t1, hO.frozenAt _, hO.frozenAt _, hl.2, fun u v n => ?_⟩
  have hO' : (wr.drewN n).ownsRow B1 41 2 (.slice (some ⟨g, 0, none⟩) L.length c1) L.length ys := hO
  have k1 : Kept [g] wr (((wr.drewN n).setCell ⟨g, i * 2, none⟩ u).setCell ⟨g, i * 2 + 1, none⟩ v) := (((Kept.mk rfl rfl rfl (Nat.le_refl _) (fun _ _ _ => rfl) : Kept [g] wr (wr.drewN n))).setCell (by simp) u).setCell (by simp) v
  refine ⟨_, ((hO'.stored (i * 2) u).1.stored (i * 2 + 1) v).1, fun j hj => ?_, owns_kept hO2 k1 (by
    intro k hk
    have hk : some g2 = some k := hk
    injection hk with hk
    subst hk
    simp
    omega), hlt, hBo.kept k1 (by simp; omega) (by simp; omega) (by simp; omega) (by simp; omega), hK.then k1 (by
    intro x hx
    simp at hx
    exact .inr (by omega))⟩
  rw [List.getElem?_set_ne (by omega), List.getElem?_set_ne (by omega)]
  exact hy j (by omega)

theorem ck_Com (w : World) (p q : Nat) (c : Clk) (most : Int) (h : ClockAt w p q c) :
    Calls Try.prog 22 #[.pointer (some ⟨p, 0, none⟩), .int .i64 most] w fun e w' => ∃ v, e = .returned v ∧ w'.ownsRow w.heap.size 41 2 v (c.coming most).length ((c.coming most).flatMap encE) ∧ Kept [] w w' :=
  ck_Coming w p q c most h _ fun v _ h1 h2 => ⟨v, rfl, h1, h2⟩

set_option maxHeartbeats 1600000 in
set_option maxRecDepth 20000 in
theorem law_play6 (w : World) (pc qc pd qd : Nat) (c : Clk) (al A B : Int) (h : Both w pc qc pd qd c) :
    Calls Try.prog 37 #[.pointer (some ⟨pc, 0, none⟩), .pointer (some ⟨pd, 0, none⟩), .agg #[.int .i64 6, .int .i64 al, .int .u32 A, .int .u32 B]] w fun e w' => e = .returned (.bool true) ∧ Both w' pc qc pd qd c ∧ Kept [pc, qc, pd, qd] w w' := by
  have hb : Both (w.alloc (.cells #[.int .i64 6, .int .i64 al, .int .u32 A, .int .u32 B] 32)).drew pc qc pd qd c := h.kept ((Kept.refl [] w).alloc _).drew (by simp) (by simp) (by simp) (by simp)
  have hk0 : Kept [pc, qc, pd, qd] w (w.alloc (.cells #[.int .i64 6, .int .i64 al, .int .u32 A, .int .u32 B] 32)).drew := ((Kept.refl _ w).alloc _).drew
  have hrow : Row (w.alloc (.cells #[.int .i64 6, .int .i64 al, .int .u32 A, .int .u32 B] 32)).drew w.heap.size 32 [.int .i64 6, .int .i64 al, .int .u32 A, .int .u32 B] := Row.drew (Row.new' rfl)
  have hcm := ck_Com _ pc qc c al hb.hc
  have b1 := h.hc.row.lt
  have b2 := h.hc.arow.lt
  have b3 := h.hd.lt
  have b4 := h.n5
  have hd1 : ∀ w1, Kept [] (w.alloc (.cells #[.int .i64 6, .int .i64 al, .int .u32 A, .int .u32 B] 32)).drew w1 → RefAt w1 pd qd c ∧ Row w1 w.heap.size 32 [.int .i64 6, .int .i64 al, .int .u32 A, .int .u32 B] := fun w1 h2 => ⟨hb.hd.kept h2 (by simp) (by simp), hrow.kept h2 (by simp)⟩
  have hll : (c.coming al).length ≤ 65536 := Nat.le_trans (coming_len c al) (by omega)
  have hsz : (w.alloc (.cells #[.int .i64 6, .int .i64 al, .int .u32 A, .int .u32 B] 32)).drew.heap.size = w.heap.size + 1 := by simp
  have hrf := fun w1 (hd : RefAt w1 pd qd c) => rf_Coming w1 pd qd c al hd
  rw [hsz] at hcm
  have fin : ∀ w1 w2 v u, w1.ownsRow (w.heap.size + 1) 41 2 v (c.coming al).length ((c.coming al).flatMap encE) → Kept [] (w.alloc (.cells #[.int .i64 6, .int .i64 al, .int .u32 A, .int .u32 B] 32)).drew w1 → w2.ownsRow w1.heap.size 41 2 u (c.coming al).length ((c.coming al).flatMap encE) → Kept [] w1 w2 →
      Play6 w pc qc pd qd (w.heap.size + 1) w1.heap.size c (c.coming al) v u 0 w2 := by
    intro w1 w2 v u h1 h2 h3 h4
    have h5 := h2.trans h4
    exact ⟨_, owns_kept h1 h4 (by simp), fun j _ => rfl, h3, fun g hg => (h1.lt g hg).2, hb.kept h5 (by simp) (by simp) (by simp) (by simp), hk0.trans (h5.mono (by simp))⟩
  clear h hb hk0 hrow hsz
  generalize c.coming al = L at *
  go_enter Try.func37, Try.ntmps37
  go_wp2_with (fail)
  go_region_held3 (fun w' => w'.cell? ⟨w.heap.size, 1, none⟩ = some (.int .i64 al)) (go_keep) ((first | (with_reducible refine hcm.mono ?_; rintro e w1 ⟨v, rfl, h3, h4⟩; obtain ⟨va, vcap, rfl, hv1, hv2⟩ := owns_slice h3; obtain ⟨hd2, hr2⟩ := hd1 _ h4; have s1 : w1.cell? ⟨w.heap.size, 1, none⟩ = some (.int .i64 al) := hr2.cell rfl; have hdrel := hrf w1 hd2) | (with_reducible refine hdrel.mono ?_; rintro e w2 ⟨u, rfl, h5, h6⟩; obtain ⟨ua, ucap, rfl, hu1, hu2⟩ := owns_slice h5; have hr3 := hr2.kept h6 (by simp); have s2 : w2.cell? ⟨w.heap.size, 1, none⟩ = some (.int .i64 al) := hr3.cell rfl)))
  all_goals
    have hst := fin _ _ _ _ h3 h4 h5 h6
    have hv3 : vcap ≤ 9223372036854775807 := by unfold maxLen at hv2; exact hv2
    have hu3 : ucap ≤ 9223372036854775807 := by unfold maxLen at hu2; exact hu2
    have hnn : ((L.length : Int) == (L.length : Int)) = true := by simp
    have HST := Lib.hid hst
    clear hst fin hd1 hrf hcm h3 h4 h5 h6 hd2 hr2 hr3 hdrel s1 s2
    go_wp2_with (fail)
    go_loopw [13] (fun iv wr => ∃ i : Nat, i ≤ L.length ∧ iv = .int .i64 i ∧ Play6 w pc qc pd qd (w.heap.size + 1) w1.heap.size c L (.slice va L.length vcap) (.slice ua L.length ucap) i wr) (fun iv _ => L.length - (intOf iv).toNat)
    case atStart => exact ⟨0, Nat.zero_le _, rfl, HST.out⟩
    case round =>
      obtain ⟨i, hin, rfl, hP⟩ := hrel
      by_cases hlt : i < L.length
      · obtain ⟨g1, g2, e1, e2, c0, c1, d0, d1, f0, f1, hgl, hnext⟩ := hP.round (by omega) (by omega) (by omega) (by omega) (by omega) hlt
        subst e1 e2
        have hneq := fun w a b => run_neq_exp w a b
        have HN := Lib.hid hnext
        clear hP HST hnext
        generalize L[i] = x at *
        generalize L.length = n at *
        go_wp2_with (first | go_quiet (fail))
        go_roundw
        case rel => exact ⟨i + 1, by omega, by go_num, HN.out _ _ _⟩
        case measure => simp [intOf]; omega
      · obtain rfl : i = L.length := by omega
        obtain ⟨ys, hO, hy, hO2, hlt, hBo, hK⟩ := hP
        clear hO hO2 hy HST
        generalize L.length = n at *
        go_wp2
        go_ret
        exact ⟨rfl, hBo, hK⟩
end Go.Proofs.Ytopgfhcgfpceaaa
