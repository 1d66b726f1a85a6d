/- The walk of package clock: Tick. -/
import Derived.Test.YtopgfhcgfpceaaaClkC
import Derived.Test.YtopgfhcgfpceaaaOps
namespace Go.Proofs.Ytopgfhcgfpceaaa
open Go.RowKit

theorem Try.info3 : (Try.prog.info? 3).map (fun i => (i.zero, i.size, i.bytes)) = some (some (.int .i64 0), 1, 8) := by kernel_rfl

/-- Between two rounds of Tick's loop. -/
def TickInv (w : World) (p q : Nat) (c : Clk) (d : Int) (k : Nat) (v : Value) (wr : World) : Prop :=
  ClockAt wr p q (c.mid d k) ∧ wr.ownsRow w.heap.size 3 1 v (firedTo c.al d k).length ((firedTo c.al d k).map fun i => .int .i64 (i : Nat)) ∧ Kept [p, q] w wr

theorem raw_behind {w wA w1 : World} {B p q : Nat} {S : List Nat} {c : Clk} {e : TypeId} {sz : Nat} {v : Value} {n : Nat} {xs : List Value} {o : Obj} (hC : RawAt wA p q c) (hO : wA.ownsRow B e sz v n xs) (hK : Kept S w wA)
    (hg : (wA.alloc o).grownBy w1 v.ownBlock) (hp : p < B) (hq : q < B) (hB : w.heap.size ≤ B) : Kept S w w1 ∧ RawAt w1 p q c := by
  have hb : ∀ k, v.ownBlock = some k → B ≤ k := fun k hk => (hO.lt k hk).1
  exact ⟨(hK.alloc o).grown hg (fun k hk => .inr (Nat.le_trans hB (hb k hk))), (hC.row.alloc o).grown hg (fun e => by have := hb p e.symm; omega), (hC.arow.alloc o).grown hg (fun e => by have := hb q e.symm; omega), hC.ne⟩

set_option maxRecDepth 20000 in
theorem ck_Tick (w : World) (p q : Nat) (c : Clk) (h : ClockAt w p q c) (R : Ending → World → Prop)
    (r : ∀ v w', ClockAt w' p q c.tick → w'.ownsRow w.heap.size 3 1 v (fired c.al 1).length ((fired c.al 1).map fun i => .int .i64 (i : Nat)) → Kept [p, q] w w' → R (.returned v) w') :
    Calls Try.prog 21 #[.pointer (some ⟨p, 0, none⟩)] w (Fin R) := by
  obtain ⟨i0, hi, hz0, hz1, hz2⟩ := info_parts Try.info3
  have h0 := h.c0
  have h1 := h.c1
  have h3 := h.c3
  have h4 := h.c4
  have f3 := h.row.free 3
  have wf := h.wf
  have m0 := wf.m0
  have m1 := wf.m1
  have v0 := wf.v0
  have v1 := wf.v1
  have hn := wf.n
  have hnext := (ck_next c.most c.value w.drew (by omega) (by omega) (by omega) (by omega)).mono (R' := fun e w'' => e = .returned (.int .u32 (after_ c.most c.value 1)) ∧ w'' = w.drew) fun _ _ hh => ⟨hh.1, hh.2.symm⟩
  go_enter Try.func21, Try.ntmps21
  go_wp2
  refine still_tail 10 (by kernel_rfl) (by kernel_rfl) ?_
  simp only [List.take_succ_cons, List.take_zero, List.drop_succ_cons, List.drop_zero]
  repeat still_step
  still_call hnext
  refine wpStill_nil ?_
  go_wp2
  have hab := emod_bd (min c.value c.most + 1 % (c.most + 1)) (c.most + 1) (by omega)
  have hcv : ClockAt (w.setCell ⟨p, 3, none⟩ (.int .u32 (after_ c.most c.value 1))).drew p q { c with value := after_ c.most c.value 1 } := h.setV _ hab.1 (by have := hab.2; unfold after_; omega)
  have hkv : Kept [p, q] w (w.setCell ⟨p, 3, none⟩ (.int .u32 (after_ c.most c.value 1))).drew := ((Kept.refl _ w).setCell (by simp) _).drew
  have hpw := h.row.lt
  have hqw := h.arow.lt
  have r' : ∀ v w', TickInv w p q { c with value := after_ c.most c.value 1 } 1 c.al.length v w' → R (.returned v) w' := by
    intro v w' ⟨h1, h2, h3⟩
    have e : ({ c with value := after_ c.most c.value 1 } : Clk).mid 1 c.al.length = c.tick := Clk.mid_all { c with value := after_ c.most c.value 1 } 1
    rw [e] at h1
    exact r v w' h1 h2 h3
  have hlen : c.al.length = ({ c with value := after_ c.most c.value 1 } : Clk).al.length := rfl
  have hst : TickInv w p q { c with value := after_ c.most c.value 1 } 1 0 (.slice none 0 0) (w.setCell ⟨p, 3, none⟩ (.int .u32 (after_ c.most c.value 1))).drew := ⟨by rw [Clk.mid_zero]; exact hcv, World.ownsRow_nil _ _ _ _, hkv⟩
  have hcw : ({ c with value := after_ c.most c.value 1 } : Clk).wf := hcv.wf
  clear r h0 h1 h3 h4 f3 wf v0 v1 hab hcv hkv hnext h
  generalize hcc : ({ c with value := after_ c.most c.value 1 } : Clk) = cv at *
  generalize c.al.length = N at *
  have hpq : p ≠ q := hst.1.ne
  have hqp : q ≠ p := Ne.symm hpq
  clear hcc
  have HL := Lib.hid hlen
  clear hlen
  go_loopw [3, 26] (fun v i wr => ∃ k : Nat, k ≤ N ∧ i = .int .i64 k ∧ TickInv w p q cv 1 k v wr) (fun _ i _ => N - (intOf i).toNat)
  case atStart => exact ⟨0, Nat.zero_le _, rfl, hst⟩
  case round =>
    obtain ⟨k, hk, rfl, hT⟩ := hrel
    by_cases hlt : k < N
    · obtain ⟨hC, hO, hK⟩ := hT
      have hla : k < cv.al.length := by have := HL.out; omega
      have hget := cv.mid_get 1 k hla
      have hsu := cv.mid_succ 1 k hla
      have hfs := firedTo_succ cv.al 1 k
      rw [List.getElem?_eq_getElem hla] at hfs
      have hfl := firedTo_length cv.al 1 k
      have hwf := hC.wf.a _ (List.mem_of_getElem? hget)
      have hmm : (cv.mid 1 k).most = cv.most := rfl
      have hll := cv.mid_length 1 k
      generalize cv.al[k] = a at *
      simp only [Option.getD_some] at hfs
      have HS := Lib.hid hsu; clear hsu
      have HF := Lib.hid hfs; clear hfs
      have HG := Lib.hid hget; clear hget
      have g4 := hC.c4
      rw [hll, ← HL.out] at g4
      have a0 := hC.a0 HG.out
      have a1 := hC.a1 HG.out
      have a2 := hC.a2 HG.out
      have q0 := hC.arow.free (k * 3)
      have q1 := hC.arow.free (k * 3 + 1)
      have q2 := hC.arow.free (k * 3 + 2)
      have l0 := hwf.l0
      have l1 := hwf.l1
      have y0 := hwf.c0
      have y1 := hwf.c1
      rw [hmm] at l1 y1
      clear hll hmm
      obtain ⟨s, l, y⟩ := a
      dsimp only at a0 a1 a2 l0 l1 y0 y1
      have cm : cv.most ≤ 2147483647 := hC.wf.m1
      cases s with
      | false =>
        go_wp2
        go_roundw
        case rel =>
          refine ⟨k + 1, by omega, by go_num, ?_, ?_, hK⟩
          · rw [HS.out, show Alm.step ⟨false, l, y⟩ 1 = ⟨false, l, y⟩ from rfl, Clk.set_same HG.out]; exact hC
          · rw [HF.out]; simpa [Alm.fires] using hO
        case measure => simp [intOf]; omega
      | true =>
        have e0 := hwf.on rfl
        by_cases h1 : 1 < l
        · have hC' := hC.setA HG.out ⟨true, l - 1, y⟩ 1 (.int .u64 (l - 1)) (by omega) rfl ⟨by simp; omega, by rw [show (cv.mid 1 k).most = cv.most from rfl]; simp; omega, hwf.c0, hwf.c1, fun _ => by simp; omega, fun h => by cases h⟩
          have hO' := ownsRow_setCell_below (a := ⟨q, k * 3 + 1, none⟩) hO hqw (.int .u64 (l - 1))
          have hK' : Kept [p, q] w (wr.setCell ⟨q, k * 3 + 1, none⟩ (.int .u64 (l - 1))) := hK.setCell (by simp) _
          have d1 : (0 : Int) < l - 1 := by omega
          clear hC hO hK hwf e0
          go_wp2
          go_roundw
          case rel =>
            refine ⟨k + 1, by omega, by go_num, ?_, ?_, hK'⟩
            · rw [HS.out, show Alm.step ⟨true, l, y⟩ 1 = ⟨true, l - 1, y⟩ from by simp [Alm.step]; omega]; exact hC'
            · rw [HF.out, show Alm.fires ⟨true, l, y⟩ 1 = false from by simp [Alm.fires]; omega]; simpa using hO'
          case measure => simp [intOf]; omega
        · obtain rfl : l = 1 := by simp at e0; omega
          have hO' := ownsRow_setCell_below (a := ⟨q, k * 3 + 1, none⟩) hO hqw (.int .u64 0)
          have hK' : Kept [p, q] w (wr.setCell ⟨q, k * 3 + 1, none⟩ (.int .u64 0)) := hK.setCell (by simp) _
          have hC' := hC.1.setA HG.out ⟨true, 0, y⟩ 1 (.int .u64 0) (by omega) rfl
          have hget' : (({ (cv.mid 1 k) with al := (cv.mid 1 k).al.set k ⟨true, 0, y⟩ } : Clk).al)[k]? = some ⟨true, 0, y⟩ := by
            have := cv.mid_length 1 k
            simp [this, hla]
          have HG' := Lib.hid hget'; clear hget'
          have hwf' := hC.wf
          clear hC hO hK
          by_cases hy : y = 0
          · subst hy
            go_wp2_with (at_builtin; refine wpList_append_own _ rfl (.tmp 52) (.tmp 54) 35 rfl w.heap.size 3 i0 (.int .i64 0) 1 8 Try.underlying35 hi hz0 hz1 hz2 rfl (by decide) _ _ _ rfl (hO'.alloc _) ⟨wr.heap.size, 0, none⟩ 1 1 [.int .i64 k] rfl rfl (by intro j u hj; match j, hj with | 0, hj => simp at hj; subst hj; simp [Addr.add, go_sem]) (by simp [Value.oneCell']) (by unfold maxLen; omega) (by omega) (by have := hK'.size; simp at this ⊢; omega) ?_; intro v' w1 hown' hgrow hnn; obtain ⟨hk1, hC1⟩ := raw_behind hC' hO' hK' hgrow hpw hqw (Nat.le_refl _); have b0 := hC1.a0 HG'.out; have b1 := hC1.a1 HG'.out; have b2 := hC1.a2 HG'.out; have z0 := hC1.arow.free (k * 3); have z1 := hC1.arow.free (k * 3 + 1); have z2 := hC1.arow.free (k * 3 + 2); dsimp only at b0 b1 b2)
            go_roundw
            case rel =>
              refine ⟨k + 1, by omega, by go_num, ?_, ?_, ?_⟩
              · have hz := ((hC1.setA HG'.out ⟨true, 0, 0⟩ 1 (.int .u64 0) (by omega) rfl).set3 (i := k) (by simpa [Clk.mid_length] using hla) Alm.zero)
                refine ⟨?_, Clk.mid_wf hcw (by omega) _⟩
                rw [HS.out, show Alm.step ⟨true, 1, 0⟩ 1 = Alm.zero from by simp [Alm.step]]
                simp only [List.set_set] at hz
                exact hz
              · rw [HF.out, show Alm.fires ⟨true, 1, 0⟩ 1 = true from by simp [Alm.fires]]
                have h5 := ownsRow_setCell_below (a := ⟨q, k * 3 + 2, none⟩) (ownsRow_setCell_below (a := ⟨q, k * 3 + 1, none⟩) (ownsRow_setCell_below (a := ⟨q, k * 3, none⟩) (ownsRow_setCell_below (a := ⟨q, k * 3 + 1, none⟩) hown' hqw (.int .u64 0)) hqw (.bool false)) hqw (.int .u64 0)) hqw (.int .u32 0)
                simpa using h5
              · exact (((hk1.setCell (by simp) _).setCell (by simp) _).setCell (by simp) _).setCell (by simp) _
            case measure => simp [intOf]; omega
          · have hy' : (y == 0) = false := by simpa using hy
            go_wp2_with (at_builtin; refine wpList_append_own _ rfl (.tmp 52) (.tmp 54) 35 rfl w.heap.size 3 i0 (.int .i64 0) 1 8 Try.underlying35 hi hz0 hz1 hz2 rfl (by decide) _ _ _ rfl (hO'.alloc _) ⟨wr.heap.size, 0, none⟩ 1 1 [.int .i64 k] rfl rfl (by intro j u hj; match j, hj with | 0, hj => simp at hj; subst hj; simp [Addr.add, go_sem]) (by simp [Value.oneCell']) (by unfold maxLen; omega) (by omega) (by have := hK'.size; simp at this ⊢; omega) ?_; intro v' w1 hown' hgrow hnn; obtain ⟨hk1, hC1⟩ := raw_behind hC' hO' hK' hgrow hpw hqw (Nat.le_refl _); have b0 := hC1.a0 HG'.out; have b1 := hC1.a1 HG'.out; have b2 := hC1.a2 HG'.out; have z0 := hC1.arow.free (k * 3); have z1 := hC1.arow.free (k * 3 + 1); have z2 := hC1.arow.free (k * 3 + 2); dsimp only at b0 b1 b2)
            go_roundw
            case rel =>
              refine ⟨k + 1, by omega, by go_num, ?_, ?_, ?_⟩
              · have hz := hC1.setA HG'.out ⟨true, y, y⟩ 1 (.int .u64 y) (by omega) rfl
                refine ⟨?_, Clk.mid_wf hcw (by omega) _⟩
                rw [HS.out, show Alm.step ⟨true, 1, y⟩ 1 = ⟨true, y, y⟩ from by simp [Alm.step, hy]]
                simpa using hz
              · rw [HF.out, show Alm.fires ⟨true, 1, y⟩ 1 = true from by simp [Alm.fires]]
                have h5 := ownsRow_setCell_below (a := ⟨q, k * 3 + 1, none⟩) hown' hqw (.int .u64 y)
                simpa using h5
              · exact hk1.setCell (by simp) _
            case measure => simp [intOf]; omega
    · obtain rfl : k = N := by omega
      go_wp2
      go_ret
      exact r' _ _ hT

end Go.Proofs.Ytopgfhcgfpceaaa
