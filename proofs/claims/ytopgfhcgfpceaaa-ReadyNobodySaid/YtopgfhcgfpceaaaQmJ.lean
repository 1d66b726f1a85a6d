/- The walk of package ready: New, whole. -/
import Derived.Test.YtopgfhcgfpceaaaQmI
namespace Go.Proofs.Ytopgfhcgfpceaaa
open Go.RowKit

/-- Between two rounds of New's loop. -/
def QNw (w : World) (rows : List (Int × Int)) (k : Nat) (wr : World) : Prop :=
  rowsOk rows k ∧ (∃ pp qq, QAtB true wr w.heap.size pp qq (qof rows k) 0 ∧ ∀ x ∈ qfoot w.heap.size pp qq (qof rows k).length, w.heap.size ≤ x ∧ x < wr.heap.size) ∧ Kept [] w wr

/-- What New answers. -/
def QMade (w : World) (rows : List (Int × Int)) (e : Ending) (w' : World) : Prop :=
  Kept [] w w' ∧ ((rowsOk rows rows.length ∧ e = .returned (.tuple #[.pointer (some ⟨w.heap.size, 0, none⟩), .int .i64 0]) ∧ ∃ F', QS w' F' w.heap.size (rows.map toQR) ∧ ∀ x ∈ F', w.heap.size ≤ x) ∨
    (¬ rowsOk rows rows.length ∧ e = .returned (.tuple #[.pointer none, .int .i64 133])))

theorem QNw.next {w wr w1 : World} {rows : List (Int × Int)} {k : Nat} {x : Int × Int} (h : QNw w rows k wr) (hx : rows[k]? = some x) (ho : rowOk rows k x) (hk : Kept [] wr w1) {p' q' : Nat} (hr : RingAt w1 p' q' (toQR x)) (hp : wr.heap.size ≤ p') (hq : wr.heap.size ≤ q') (n : Nat) :
    QNw w rows (k + 1) ((w1.setCell ⟨w.heap.size, 1 + x.1.toNat, none⟩ (.pointer (some ⟨p', 0, none⟩))).drewN n) := by
  obtain ⟨h1, ⟨pp, qq, h2, h3⟩, h4⟩ := h
  have h5 := rowsOk_succ h1 hx ho
  have hwf := qof_wf h5
  have hsn := qof_succ hx
  rw [hsn] at hwf
  have hs := h2.snoc hk hr hp hq hwf
  have hsz := h4.size
  have hsz1 := hk.size
  have hkd := Kept.drewN [] (w1.setCell ⟨w.heap.size, 1 + x.1.toNat, none⟩ (.pointer (some ⟨p', 0, none⟩))) n
  have hrl := hr.lt
  refine ⟨h5, ⟨_, _, by rw [hsn]; exact hs.kept hkd (by simp), fun y hy => ?_⟩, ((h4.trans hk).setCell (.inr (Nat.le_refl _)) _).trans hkd⟩
  have hlen : (qof rows (k + 1)).length = (qof rows k).length + 1 := by rw [hsn]; simp
  rw [hlen] at hy
  have hsz2 : ((w1.setCell ⟨w.heap.size, 1 + x.1.toNat, none⟩ (.pointer (some ⟨p', 0, none⟩))).drewN n).heap.size = w1.heap.size := by
    show (w1.setCell _ _).heap.size = _
    simp
  rw [hsz2]
  rcases mem_qfoot.1 hy with rfl | ⟨j, hj, hy⟩
  · have := h2.row.lt
    omega
  · by_cases e : j = (qof rows k).length
    · simp only [e, if_true] at hy
      omega
    · simp only [e, if_false] at hy
      have := h3 y (mem_qfoot.2 (.inr ⟨j, by omega, hy⟩))
      omega

theorem QNw.keep {w wr w1 : World} {rows : List (Int × Int)} {k : Nat} (h : QNw w rows k wr) (hk : Kept [] wr w1) : QNw w rows k w1 := by
  obtain ⟨h1, ⟨pp, qq, h2, h3⟩, h4⟩ := h
  exact ⟨h1, ⟨pp, qq, h2.kept hk (by simp), fun x hx => by have := h3 x hx; have := hk.size; omega⟩, h4.trans hk⟩

theorem QNw.done {w wr : World} {rows : List (Int × Int)} (h : QNw w rows rows.length wr) : QMade w rows (.returned (.tuple #[.pointer (some ⟨w.heap.size, 0, none⟩), .int .i64 0])) wr := by
  obtain ⟨h1, ⟨pp, qq, h2, h3⟩, h4⟩ := h
  have e : qof rows rows.length = rows.map toQR := by unfold qof; rw [List.take_length]
  have hb := qof_bits rows rows.length
  rw [e] at h2 h3 hb
  exact ⟨h4, .inl ⟨h1, rfl, _, ⟨⟨pp, qq, by rw [hb]; exact h2, fun x hx => hx⟩, fun x hx => (h3 x hx).2⟩, fun x hx => (h3 x hx).1⟩⟩

theorem QNw.bad {w wr : World} {rows : List (Int × Int)} {k : Nat} {x : Int × Int} (h : QNw w rows k wr) (hx : rows[k]? = some x) (hb : ¬ rowOk rows k x) {w1 : World} (hk : Kept [] wr w1) : QMade w rows (.returned (.tuple #[.pointer none, .int .i64 133])) w1 :=
  ⟨h.2.2.trans hk, .inr ⟨fun hh => hb (hh k x (List.getElem?_eq_some_iff.1 hx).1 hx), rfl⟩⟩

set_option maxRecDepth 100000 in
set_option maxHeartbeats 2000000 in
theorem q_New (w : World) (a : Option Addr) (sc : Nat) (rows : List (Int × Int)) (hr : Reads w w.heap.size a rows.length 2 (rows.flatMap rrEnc)) (hn : rows.length ≤ 9223372036854775807) :
    Calls Try.prog 97 #[.slice a rows.length sc] w (QMade w rows) := by
  have hst : QNw w rows 0 (w.alloc (.cells (Value.bool true :: (List.replicate 64 (Value.pointer none) ++ [.int .u64 0])).toArray 93)) := by
    refine ⟨fun i x hi _ => by omega, ⟨fun _ => 0, fun _ => 0, ⟨?_, fun i r hi => by simp [qof] at hi, fun i hi => by simp [qof] at hi, fun i j hi => by simp [qof] at hi, ⟨by simp [qof], by simp [qof]⟩⟩, fun x hx => ?_⟩, (Kept.refl _ _).alloc _⟩
    · have e : ringsOf (fun _ => 0) (qof rows 0) = List.replicate 64 (.pointer none) := rfl
      unfold qcells
      rw [e]
      exact Row.new' rfl
    · rcases mem_qfoot.1 hx with rfl | ⟨j, hj, _⟩
      · simp
      · simp [qof] at hj
  go_enter Try.func97, Try.ntmps97
  go_wp2
  go_loopw [5, 14] (fun l i wr => ∃ k : Nat, k ≤ rows.length ∧ i = .int .i64 k ∧ (∃ lv : Int, l = .int .i64 lv ∧ (k = 0 → lv = 64) ∧ (∀ y, rows[k - 1]? = some y → 0 < k → lv = y.1)) ∧ QNw w rows k wr) (fun _ i _ => rows.length - (intOf i).toNat)
  case atStart => exact ⟨0, Nat.zero_le _, rfl, ⟨64, rfl, fun _ => rfl, fun _ _ h => by omega⟩, hst⟩
  case round =>
    clear hst
    obtain ⟨k, hk, rfl, ⟨lv, rfl, hl1, hl2⟩, hN⟩ := hrel
    by_cases hlt : k < rows.length
    · obtain ⟨x, hx⟩ : ∃ x, rows[k]? = some x := ⟨_, List.getElem?_eq_getElem hlt⟩
      obtain ⟨b0, off, rfl, hb0, hc⟩ := (hr.kept hN.2.2 (by simp)).2 (by omega)
      have d0 := hc (k * 2 + 0) (.int .i64 x.1) (by rw [flat_get rrEnc_length _ k 0 x hx (by omega)]; rfl)
      have d1 := hc (k * 2 + 1) (.int .i64 x.2) (by rw [flat_get rrEnc_length _ k 1 x hx (by omega)]; rfl)
      have e0 : wr.cell? ⟨b0, off + k * 2, none⟩ = some (.int .i64 x.1) := d0
      have e1 : wr.cell? ⟨b0, off + k * 2 + 1, none⟩ = some (.int .i64 x.2) := d1
      have hlv : (0 ≤ x.1 ∧ x.1 < lv ∧ 1 ≤ x.2 ∧ x.2 ≤ 65536) ↔ rowOk rows k x := by
        constructor
        · rintro ⟨h1, h2, h3, h4⟩
          refine ⟨h1, ?_, fun y hy h0 => by rw [← hl2 y hy h0]; exact h2, h3, h4⟩
          by_cases e : k = 0
          · have := hl1 e; omega
          · have hy : rows[k - 1]? = some rows[k - 1] := List.getElem?_eq_getElem (by omega)
            have := hl2 _ hy (by omega)
            have := (hN.1 (k - 1) _ (by omega) hy).2.1
            omega
        · rintro ⟨h1, h2, h3, h4, h5⟩
          refine ⟨h1, ?_, h4, h5⟩
          by_cases e : k = 0
          · have := hl1 e; omega
          · have hy : rows[k - 1]? = some rows[k - 1] := List.getElem?_eq_getElem (by omega)
            rw [hl2 _ hy (by omega)]
            exact h3 _ hy (by omega)
      have hbad : ∀ w1, ¬ (0 ≤ x.1 ∧ x.1 < lv ∧ 1 ≤ x.2 ∧ x.2 ≤ 65536) → Kept [] wr w1 → QMade w rows (.returned (.tuple #[.pointer none, .int .i64 133])) w1 := fun w1 hb hk => hN.bad hx (fun h => hb (hlv.2 h)) hk
      have hgood : ∀ (w1 w2 : World) (g : Nat), (0 ≤ x.1 ∧ x.1 < lv ∧ 1 ≤ x.2 ∧ x.2 ≤ 65536) → Kept [] wr w1 → g = w1.heap.size → RgAt w2 g g (Rg.new x.2.toNat) → Kept [] w1 w2 → ∀ n, QNw w rows (k + 1) ((w2.setCell ⟨w.heap.size, 1 + x.1.toNat, none⟩ (.pointer (some ⟨g, 0, none⟩))).drewN n) := fun w1 w2 g hg hk hge hr hk2 n =>
        hN.next hx (hlv.1 hg) (hk.trans hk2) (p' := g) (q' := g) ⟨_, hr, rfl, rfl, rfl, hr.lt⟩ (by have := hk.size; omega) (by have := hk.size; omega) n
      have hcell : ∀ w1, Kept [] wr w1 → (0 ≤ x.1 ∧ x.1 < lv ∧ 1 ≤ x.2 ∧ x.2 ≤ 65536) → (∃ v, w1.cell? ⟨w.heap.size, 1 + x.1.toNat, none⟩ = some v) ∧ w1.frozen? ⟨w.heap.size, 1 + x.1.toNat, none⟩ = false := fun w1 hk hg => by
        obtain ⟨_, ⟨pp, qq, h2, _⟩, _⟩ := hN.keep hk
        have := (hlv.1 hg).2.1
        exact ⟨⟨_, h2.ck x.1.toNat (by omega)⟩, h2.row.free _⟩
      have hlv64 : (0 ≤ x.1 ∧ x.1 < lv ∧ 1 ≤ x.2 ∧ x.2 ≤ 65536) → x.1 ≤ 63 := fun hg => (hlv.1 hg).2.1
      have hl3 : ∀ y, rows[k + 1 - 1]? = some y → x.1 = y.1 := fun y hy => by rw [Nat.add_sub_cancel, hx] at hy; injection hy with hy; rw [hy]
      have hkI : (k : Int) < rows.length := by omega
      have HX := Lib.hid hl3
      have hww := hN.2.2.size
      clear d0 d1 hc hr hlv hl1 hl2 hN hl3 hx
      obtain ⟨xp, xc⟩ := x
      dsimp only at *
      generalize rows.length = N at *
      by_cases h1 : xp < 0
      · have hb := fun w1 hk => hbad w1 (by omega) hk
        clear hbad hgood hcell
        go_wp2
        go_ret2
        exact hb _ ((Kept.refl _ _).alloc _)
      by_cases h2 : lv ≤ xp
      · have hb := fun w1 hk => hbad w1 (by omega) hk
        clear hbad hgood hcell
        go_wp2
        go_ret2
        exact hb _ ((Kept.refl _ _).alloc _)
      by_cases h3 : xc < 1
      · have hb := fun w1 hk => hbad w1 (by omega) hk
        clear hbad hgood hcell
        go_wp2
        go_ret2
        exact hb _ ((Kept.refl _ _).alloc _)
      by_cases h4 : 65536 < xc
      · have hb := fun w1 hk => hbad w1 (by omega) hk
        clear hbad hgood hcell
        go_wp2_with (go_at_call 195; refine (rg_New_bad _ _ h4).mono ?_; rintro e w' ⟨rfl, rfl⟩)
        go_ret2
        exact hb _ ((Kept.refl _ _).alloc _)
      obtain ⟨c, rfl⟩ := Int.eq_ofNat_of_zero_le (by omega : 0 ≤ xc)
      obtain ⟨p, rfl⟩ := Int.eq_ofNat_of_zero_le (by omega : 0 ≤ xp)
      have hg := fun w1 w2 g => hgood w1 w2 g (by omega)
      have hce := fun w1 hk => hcell w1 hk (by omega)
      have hp63 : (p : Int) < 64 := by have := hlv64 (by omega); omega
      have hp0 : (p : Int) < lv := by omega
      have hc1 : (1 : Int) ≤ c := by omega
      simp only [Int.toNat_natCast] at hg hce
      have hHG := Lib.hid hg
      have hHC := Lib.hid hce
      clear hgood hcell hlv64 hbad hg hce
      have hr0 : Row (wr.alloc (.cells #[.int .i64 p, .int .i64 c] 191)) wr.heap.size 191 [.int .i64 p, .int .i64 c] := Row.new' rfl
      have hnew := rg_New (wr.alloc (.cells #[.int .i64 p, .int .i64 c] 191)) c (by omega)
      have hsz : (wr.alloc (.cells #[.int .i64 p, .int .i64 c] 191)).heap.size = wr.heap.size + 1 := by simp
      rw [hsz] at hnew
      have HR0 := Lib.hid hr0
      clear hr0 hsz
      go_wp2_with (go_at_call 195; refine hnew.mono ?_; rintro e w2 ⟨rfl, hR, hk2⟩; have hr2 := HR0.out.kept hk2 (by simp); have g0 := hr2.cell (i := 0) rfl; have g1 := hr2.cell (i := 1) rfl; have hce := hHC.out w2 (((Kept.refl _ _).alloc _).trans hk2); obtain ⟨⟨cv, ecv⟩, fcv⟩ := hce; clear hr2)
      have hN := hHG.out _ w2 (wr.heap.size + 1) ((Kept.refl _ _).alloc _) (by simp) hR hk2 1
      have HN := Lib.hid hN
      clear hN hR hk2 hnew hHG hHC
      refine still_tail 7 (by kernel_rfl) (by kernel_rfl) ?_
      simp only [List.take_succ_cons, List.take_zero, List.drop_succ_cons, List.drop_zero]
      repeat still_step
      refine wpStill_nil ?_
      go_wp2
      go_roundw
      case rel => exact ⟨k + 1, by omega, by go_num, ⟨p, rfl, fun e => by omega, fun y hy _ => HX.out y hy⟩, HN.out⟩
      case measure => simp [intOf]; omega
    · obtain rfl : k = rows.length := by omega
      have hf := hN.done
      clear hN hr
      go_wp2
      go_ret2
      exact hf
end Go.Proofs.Ytopgfhcgfpceaaa
