/- The walk of package tappetref16: Tick. -/
import Derived.Test.YtopgfhcgfpceaaaRefE
namespace Go.Proofs.Ytopgfhcgfpceaaa
open Go.RowKit

/-- Between two rounds of Tick's loop. -/
def RTick (w : World) (p q : Nat) (nm : ByteArray) (bs : Int) (a : Option Addr) (cap : Nat) (tail : List Value) (c : Clk) (k : Nat) (v : Value) (wr : World) : Prop :=
  RefX wr p q nm bs a cap tail (c.mid 1 k) ∧ wr.ownsRow w.heap.size 3 1 v (firedTo c.al 1 k).length ((firedTo c.al 1 k).map fun i => .int .i64 (i : Nat)) ∧ Kept [p, q] w wr

theorem refx_behind {wA w1 : World} {B p q : Nat} {nm : ByteArray} {bs : Int} {a : Option Addr} {cap : Nat} {tail : List Value} {c : Clk} {e : TypeId} {sz : Nat} {v : Value} {n : Nat} {xs : List Value} (hX : RefX wA p q nm bs a cap tail c) (hO : wA.ownsRow B e sz v n xs)
    (hg : wA.grownBy w1 v.ownBlock) (hp : p < B) (hq : q < B) : RefX w1 p q nm bs a cap tail c := by
  have hb : ∀ k, v.ownBlock = some k → B ≤ k := fun k hk => (hO.lt k hk).1
  exact ⟨hX.1.grown hg (fun e => by have := hb p e.symm; omega), hX.2.1.imp id (fun h => ⟨h.1, h.2.1.grown hg (fun e => by have := hb q e.symm; omega), h.2.2⟩), hX.2.2⟩

theorem RefX.setCell {w : World} {p q : Nat} {nm : ByteArray} {bs : Int} {a : Option Addr} {cap : Nat} {tail : List Value} {c : Clk} (h : RefX w p q nm bs a cap tail c) {ad : Addr} (hp : ad.block ≠ p) (hq : ad.block ≠ q) (v : Value) : RefX (w.setCell ad v) p q nm bs a cap tail c :=
  ⟨h.1.set_ne hp v, h.2.1.imp id (fun h => ⟨h.1, h.2.1.set_ne hq v, h.2.2⟩), h.2.2⟩

/-- A row of other elements is no block that is known by its type. -/
theorem owns_ne {w : World} {B b : Nat} {T e : TypeId} {sz n : Nat} {v : Value} {xs cs : List Value} (hO : w.ownsRow B e sz v n xs) (hR : Row w b T cs) (hne : e ≠ T) : v.ownBlock ≠ some b := by
  intro h
  rcases hO.2 with ⟨rfl, _⟩ | ⟨g, cap, cur, rfl, _, hg, _⟩
  · cases h
  · have h : some g = some b := h
    injection h with h
    subst h
    have := Option.some.inj ((show w.heap[g]? = _ from hR).symm.trans hg)
    simp at this
    exact hne this.2.symm

set_option maxHeartbeats 3200000 in
set_option maxRecDepth 20000 in
theorem rf_Tick (w : World) (p q : Nat) (c : Clk) (h : RefAt w p q c) :
    Calls Try.prog 117 #[.pointer (some ⟨p, 0, none⟩)] w fun e w' => ∃ v, e = .returned v ∧ RefAt w' p q c.tick ∧ w'.ownsRow w.heap.size 3 1 v (fired c.al 1).length ((fired c.al 1).map fun i => .int .i64 (i : Nat)) ∧ Kept [p, q] w w' := by
  obtain ⟨i0, hi, hz0, hz1, hz2⟩ := info_parts Try.info3
  obtain ⟨⟨nm, bs, a, cap, tail, hx⟩, wf⟩ := h
  have h0 := hx.c0
  have h2 := hx.c2
  have h5 := hx.c5
  have f5 := hx.row.free 5
  have m0 := wf.m0
  have m1 := wf.m1
  have v0 := wf.v0
  have v1 := wf.v1
  have hn := wf.n
  have hnext := rf_next w.drew c.most c.value (by omega) (by omega) (by omega) (by omega)
  have hab := emod_bd (min c.value c.most + 1 % (c.most + 1)) (c.most + 1) (by omega)
  have hcv : ∀ n, RefX ((w.drewN n).setCell ⟨p, 5, none⟩ (.int .u32 (after_ c.most c.value 1))) p q nm bs a cap tail { c with value := after_ c.most c.value 1 } := fun n => RefX.setV (w := w.drewN n) hx _
  have hkv : ∀ n, Kept [p, q] w ((w.drewN n).setCell ⟨p, 5, none⟩ (.int .u32 (after_ c.most c.value 1))) := fun n => (Kept.mk rfl rfl rfl (Nat.le_refl _) (fun _ _ _ => rfl) : Kept [p, q] w (w.drewN n)).setCell (by simp) _
  have hcw : ({ c with value := after_ c.most c.value 1 } : Clk).wf := ⟨wf.m0, wf.m1, wf.e0, wf.e1, by have := hab.1; exact this, by have := hab.2; simp only [after_]; omega, wf.n, wf.a⟩
  have hpw := hx.row.lt
  clear hab
  go_enter Try.func117, Try.ntmps117
  go_wp2
  go_region_with ((refine hnext.mono ?_; rintro e w' ⟨rfl, nd, rfl⟩))
  all_goals
    go_wp2
    have fin : ∀ v w', RTick w p q nm bs a cap tail { c with value := after_ c.most c.value 1 } c.al.length v w' → RefAt w' p q c.tick ∧ w'.ownsRow w.heap.size 3 1 v (fired c.al 1).length ((fired c.al 1).map fun i => .int .i64 (i : Nat)) ∧ Kept [p, q] w w' := by
      intro v w' ⟨h1, h2, h3⟩
      have e : ({ c with value := after_ c.most c.value 1 } : Clk).mid 1 c.al.length = c.tick := Clk.mid_all { c with value := after_ c.most c.value 1 } 1
      rw [e] at h1
      refine ⟨⟨⟨nm, bs, a, cap, tail, h1⟩, ?_⟩, h2, h3⟩
      rw [← e]
      exact Clk.mid_wf hcw (by omega) _
    have hlen : c.al.length = ({ c with value := after_ c.most c.value 1 } : Clk).al.length := rfl
    have hst : RTick w p q nm bs a cap tail { c with value := after_ c.most c.value 1 } 0 (.slice none 0 0) ((w.drewN (1 + nd)).setCell ⟨p, 5, none⟩ (.int .u32 (after_ c.most c.value 1))) := ⟨by rw [Clk.mid_zero]; exact hcv _, World.ownsRow_nil _ _ _ _, hkv _⟩
    have hqB : 0 < c.al.length → q < w.heap.size := fun h => (hx.arow h).lt
    clear h0 h2 h5 f5 wf v0 v1 hcv hkv hnext hx
    generalize hcc : ({ c with value := after_ c.most c.value 1 } : Clk) = cv at *
    generalize c.al.length = N at *
    clear hcc
    have HL := Lib.hid hlen
    clear hlen
    go_loopw [3, 4] (fun v i wr => ∃ k : Nat, k ≤ N ∧ i = .int .i64 k ∧ RTick w p q nm bs a cap tail cv k v wr) (fun _ i _ => N - (intOf i).toNat)
    case atStart => exact ⟨0, Nat.zero_le _, rfl, hst⟩
    case round =>
      clear hst
      obtain ⟨k, hk, rfl, hT⟩ := hrel
      by_cases hlt : k < N
      · obtain ⟨hC, hO, hK⟩ := hT
        have hqB' := hqB (by omega)
        have hla : k < cv.al.length := by have := HL.out; omega
        have hlm : k < (cv.mid 1 k).al.length := by rw [Clk.mid_length]; exact hla
        have hget := cv.mid_get 1 k hla
        have hsu := cv.mid_succ 1 k hla
        have hfs := firedTo_succ cv.al 1 k
        rw [List.getElem?_eq_getElem hla] at hfs
        have hfl := firedTo_length cv.al 1 k
        have hwf := hcw.a _ (List.getElem_mem hla)
        have hll := cv.mid_length 1 k
        generalize cv.al[k] = x at *
        simp only [Option.getD_some] at hfs
        have HS := Lib.hid hsu; clear hsu
        have HF := Lib.hid hfs; clear hfs
        have HG := Lib.hid hget; clear hget
        obtain ⟨ha, har, hpq⟩ := hC.on hlm
        subst ha
        have hcap := hC.2.2.1
        have hcap2 := hC.2.2.2.1
        rw [hll, ← HL.out] at hcap
        have hqp : q ≠ p := Ne.symm hpq
        have g6 := hC.c6
        rw [hll, ← HL.out] at g6
        have a0 := hC.a0 HG.out
        have a1 := hC.a1 HG.out
        have a2 := hC.a2 HG.out
        have q0 := har.free (k * 3)
        have q1 := har.free (k * 3 + 1)
        have q2 := har.free (k * 3 + 2)
        have l0 := hwf.l0
        have l1 := hwf.l1
        have y0 := hwf.c0
        have y1 := hwf.c1
        have hqw := har.lt
        have hpw' := hC.row.lt
        clear hll har
        obtain ⟨s, l, y⟩ := x
        dsimp only at a0 a1 a2 l0 l1 y0 y1
        have cm : cv.most ≤ 2147483647 := hcw.m1
        cases s with
        | false =>
          have r1 := fun o => hC.kept ((Kept.refl [] wr).alloc o) (by simp) (by simp)
          have r2 := fun o => hO.alloc o
          have r3 := fun o => hK.alloc o
          go_wp2
          go_roundw
          case rel =>
            refine ⟨k + 1, by omega, by go_num, ?_, ?_, r3 _⟩
            · rw [HS.out, show Alm.step ⟨false, l, y⟩ 1 = ⟨false, l, y⟩ from rfl, Clk.set_same HG.out]; exact r1 _
            · rw [HF.out]; simpa [Alm.fires] using r2 _
          case measure => simp [intOf]; omega
        | true =>
          have e0 := hwf.on rfl
          by_cases h1 : 1 < l
          · have d1 : (0 : Int) < l - 1 := by omega
            have d2 : (l - 1 == 0) = false := by simp; omega
            have hC' := (hC.set3 hlm ⟨true, l - 1, y⟩)
            have hO' := ownsRow_setCell_below (a := ⟨q, k * 3 + 2, none⟩) (ownsRow_setCell_below (a := ⟨q, k * 3 + 1, none⟩) (ownsRow_setCell_below (a := ⟨q, k * 3, none⟩) hO hqB' (.bool true)) hqB' (.int .u64 (l - 1))) hqB' (.int .u32 y)
            have hK' : Kept [p, q] w (((wr.setCell ⟨q, k * 3, none⟩ (.bool true)).setCell ⟨q, k * 3 + 1, none⟩ (.int .u64 (l - 1))).setCell ⟨q, k * 3 + 2, none⟩ (.int .u32 y)) := ((hK.setCell (by simp) _).setCell (by simp) _).setCell (by simp) _
            clear hC hO hK hwf e0
            go_wp2
            refine still_tail 7 (by kernel_rfl) (by kernel_rfl) ?_
            simp only [List.take_succ_cons, List.take_zero, List.drop_succ_cons, List.drop_zero]
            repeat still_step
            refine wpStill_nil ?_
            go_wp2
            go_roundw
            case rel =>
              refine ⟨k + 1, by omega, by go_num, ?_, ?_, (hK'.alloc _).drew⟩
              · rw [HS.out, show Alm.step ⟨true, l, y⟩ 1 = ⟨true, l - 1, y⟩ from by simp [Alm.step]; omega]; exact hC'.kept ((Kept.refl [] _).alloc _).drew (by simp) (by simp)
              · rw [HF.out, show Alm.fires ⟨true, l, y⟩ 1 = false from by simp [Alm.fires]; omega]; simpa using (hO'.alloc _).drew
            case measure => simp [intOf]; omega
          · obtain rfl : l = 1 := by simp at e0; omega
            have hbox : Row (wr.alloc (.cells #[.bool true, .int .u64 0, .int .u32 y] 212)) wr.heap.size 212 [.bool true, .int .u64 0, .int .u32 y] := Row.new' rfl
            have hC' := hC.kept ((Kept.refl [] wr).alloc (.cells #[.bool true, .int .u64 0, .int .u32 y] 212)) (by simp) (by simp)
            have hO' := hO.alloc (.cells #[.bool true, .int .u64 0, .int .u32 y] 212)
            have hK' := hK.alloc (.cells #[.bool true, .int .u64 0, .int .u32 y] 212)
            have hws := hK.size
            have hbq : wr.heap.size ≠ q := by omega
            have hqb : q ≠ wr.heap.size := by omega
            have hbp : wr.heap.size ≠ p := by omega
            have hpb : p ≠ wr.heap.size := by omega
            clear hC hO hK
            go_wp2_with (at_builtin; refine wpList_append_own _ rfl (.tmp 50) (.tmp 52) 35 rfl w.heap.size 3 i0 (.int .i64 0) 1 8 Try.underlying35 hi hz0 hz1 hz2 rfl (by decide) _ _ _ rfl (hO'.alloc _) ⟨wr.heap.size + 1, 0, none⟩ 1 1 [.int .i64 k] rfl rfl (by intro j u hj; match j, hj with | 0, hj => simp at hj; subst hj; simp [Addr.add, go_sem]) (by simp [Value.oneCell']) (by unfold maxLen; omega) (by omega) (by simp; omega) ?_; intro v' w1 hown' hgrow hnn; have hX1 := refx_behind (hC'.kept ((Kept.refl [] _).alloc (.cells #[.int .i64 k] 3)) (by simp) (by simp)) (hO'.alloc (.cells #[.int .i64 k] 3)) hgrow hpw hqB'; have hR1 := (hbox.alloc (.cells #[.int .i64 k] 3)).grown hgrow (Ne.symm (owns_ne hO' hbox (by decide))); have hK1 := (hK'.alloc (.cells #[.int .i64 k] 3)).grown hgrow (fun j hj => .inr (hO'.lt j hj).1); have hlm1 := hlm; have e0 := hR1.cell (i := 0) rfl; have e1 := hR1.cell (i := 1) rfl; have e2 := hR1.cell (i := 2) rfl; have k0 := hR1.free 0; have k1 := hR1.free 1; have k2 := hR1.free 2; have b0 := hX1.a0 HG.out; have b1 := hX1.a1 HG.out; have b2 := hX1.a2 HG.out; have z0 := (hX1.arow hlm).free (k * 3); have z1 := (hX1.arow hlm).free (k * 3 + 1); have z2 := (hX1.arow hlm).free (k * 3 + 2); have g61 := hX1.c6; rw [Clk.mid_length, ← HL.out] at g61; dsimp only at b0 b1 b2)
            refine still_tail 7 (by kernel_rfl) (by kernel_rfl) ?_
            simp only [List.take_succ_cons, List.take_zero, List.drop_succ_cons, List.drop_zero]
            repeat still_step
            refine wpStill_nil ?_
            go_wp2
            go_roundw
            case rel =>
              have hst : Alm.step ⟨true, 1, y⟩ 1 = ⟨decide (0 < y), y, y⟩ := by
                by_cases hy : y = 0
                · subst hy; simp [Alm.step, Alm.zero]
                · have : 0 < y := by omega
                  simp [Alm.step, hy, this]
              have hX2 := (((hX1.setCell (ad := ⟨wr.heap.size, 0, none⟩) hbp hbq (.bool (decide (0 < y)))).setCell (ad := ⟨wr.heap.size, 1, none⟩) hbp hbq (.int .u64 y)).setCell (ad := ⟨wr.heap.size, 2, none⟩) hbp hbq (.int .u32 y)).set3 hlm ⟨decide (0 < y), y, y⟩
              have hn1 := owns_ne hown' hR1 (by decide)
              have hO2 := ownsRow_setCell_other (a := ⟨wr.heap.size, 2, none⟩) (ownsRow_setCell_other (a := ⟨wr.heap.size, 1, none⟩) (ownsRow_setCell_other (a := ⟨wr.heap.size, 0, none⟩) hown' hn1 (.bool (decide (0 < y)))) hn1 (.int .u64 y)) hn1 (.int .u32 y)
              have hO3 := ownsRow_setCell_below (a := ⟨q, k * 3 + 2, none⟩) (ownsRow_setCell_below (a := ⟨q, k * 3 + 1, none⟩) (ownsRow_setCell_below (a := ⟨q, k * 3, none⟩) hO2 hqB' (.bool (decide (0 < y)))) hqB' (.int .u64 y)) hqB' (.int .u32 y)
              refine ⟨k + 1, by omega, by go_num, ?_, ?_, (((((((hK1.setCell (.inr hws) _).setCell (.inr hws) _).setCell (.inr hws) _).setCell (by simp) _).setCell (by simp) _).setCell (by simp) _).drew)⟩
              · rw [HS.out, hst]
                exact hX2.kept (Kept.refl [] _).drew (by simp) (by simp)
              · rw [HF.out, show Alm.fires ⟨true, 1, y⟩ 1 = true from by simp [Alm.fires]]
                simpa using hO3.drew
            case measure => simp [intOf]; omega
      · obtain rfl : k = N := by omega
        have hh := fin _ _ hT
        have g6 := hT.1.c6
        rw [Clk.mid_length, ← HL.out] at g6
        have hcap := hT.1.2.2.1
        rw [Clk.mid_length, ← HL.out] at hcap
        clear hT
        go_wp2
        go_ret
        exact ⟨_, rfl, hh⟩

end Go.Proofs.Ytopgfhcgfpceaaa
