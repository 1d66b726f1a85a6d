/- The walk of package clock: Coming. -/
import Derived.Test.YtopgfhcgfpceaaaClkH
import Derived.Deep.LoopGhost
import Derived.Deep.DeepCutAuto
import Derived.Deep.CutBlock
namespace Go.Proofs.Ytopgfhcgfpceaaa
open Go.RowKit

theorem ck_Copy' (w : World) (p q : Nat) (c : Clk) (h : ClockAt w p q c) :
    Calls Try.prog 34 #[.pointer (some ⟨p, 0, none⟩)] w fun e w' => ∃ p' q', e = .returned (.pointer (some ⟨p', 0, none⟩)) ∧ w.heap.size ≤ p' ∧ w.heap.size ≤ q' ∧ ClockAt w' p' q' c ∧ Kept [] w w' :=
  ck_Copy w p q c h _ fun p' q' _ h1 h2 h3 h4 => ⟨p', q', rfl, h1, h2, h3, h4⟩

theorem ck_soonest' (w : World) (p q : Nat) (c : Clk) (h : ClockAt w p q c) :
    Calls Try.prog 94 #[.pointer (some ⟨p, 0, none⟩)] w fun e w' => e = .returned (.tuple #[.int .u64 (soonest c.al).1, .bool (soonest c.al).2]) ∧ Kept [] w w' :=
  ck_soonest w p q c h _ fun _ h1 => ⟨rfl, h1⟩

theorem ck_Clone' (w : World) (g n cap : Nat) (xs : List (Int × Nat)) (hx : xs.length = n) (hn : n ≤ 131072)
    (hc : ∀ j v, (xs.flatMap encE)[j]? = some v → w.cell? ((⟨g, 0, none⟩ : Addr).add j) = some v) (hg : g < w.heap.size) :
    Calls Try.prog 95 #[.slice (some ⟨g, 0, none⟩) n cap] w fun e w' => ∃ v, e = .returned v ∧ w'.ownsRow w.heap.size 41 2 v n (xs.flatMap encE) ∧ Kept [] w w' :=
  ck_Clone w g n cap xs hx hn hc hg _ fun v _ h1 h2 => ⟨v, rfl, h1, h2⟩

/-- Between two rounds of Coming's outer loop: al, ps, acc as they stand; B: where the copy's own memory begins. -/
def ComOut (w : World) (B xp xq : Nat) (c : Clk) (m : Nat) (fin : List (Int × Nat)) (f : Nat) (v ps : Value) (wr : World) : Prop :=
  ∃ (al : List Alm) (pv : Int) (acc : List (Int × Nat)), ps = .int .u64 pv ∧ 0 ≤ pv ∧ pv ≤ acc.length * 2147483648 ∧ m < f + acc.length ∧ comingGo f al pv m acc = fin ∧ acc.length < m + 64 + 1 ∧
    ClockAt wr xp xq { c with al := al } ∧ wr.ownsRow B 41 2 v acc.length (acc.flatMap encE) ∧ Kept [] w wr ∧ B ≤ wr.heap.size

/-- Between two rounds of its inner loop. -/
def ComIn (w : World) (B xp xq : Nat) (cx : Clk) (d ps : Int) (acc : List (Int × Nat)) (k : Nat) (v : Value) (wr : World) : Prop :=
  ClockAt wr xp xq (cx.mid d k) ∧ wr.ownsRow B 41 2 v (acc ++ (firedTo cx.al d k).map fun i => (ps, i)).length ((acc ++ (firedTo cx.al d k).map fun i => (ps, i)).flatMap encE) ∧ Kept [] w wr ∧ B ≤ wr.heap.size

/-- Behind the outer loop. -/
def ComEnd (w : World) (B : Nat) (m : Nat) (fin : List (Int × Nat)) (v : Value) (wr : World) : Prop :=
  wr.ownsRow B 41 2 v fin.length (fin.flatMap encE) ∧ fin.length < m + 64 + 1 ∧ Kept [] w wr ∧ B ≤ wr.heap.size

theorem take_flat {α β : Type} (enc : α → List β) (l : List α) (k j : Nat) (v : β) (h : ((l.take k).flatMap enc)[j]? = some v) : (l.flatMap enc)[j]? = some v := by
  have e : l.flatMap enc = (l.take k).flatMap enc ++ (l.drop k).flatMap enc := by rw [← List.flatMap_append, List.take_append_drop]
  rw [e, List.getElem?_append_left (List.getElem?_eq_some_iff.1 h).1]
  exact h

theorem ck_CloneNil (w : World) :
    Calls Try.prog 95 #[.slice none 0 0] w fun e w' => e = .returned (.slice none 0 0) ∧ w = w' := by
  have hnil := fun w' => Lib.run_eql_slice_nil (P := Try.prog) w' 37 41 none 0 0 0 0 Try.underlying37
  go_enter Try.func95, Try.ntmps95
  go_wp2
  go_ret
  exact ⟨rfl, rfl⟩

theorem ck_ClonePart (w : World) (B g n cap k : Nat) (xs : List (Int × Nat)) (hO : w.ownsRow B 41 2 (.slice (some ⟨g, 0, none⟩) n cap) n (xs.flatMap encE)) (hx : xs.length = n) (hk : k ≤ n) (hn : k ≤ 131072) :
    Calls Try.prog 95 #[.slice (some ⟨g, 0, none⟩) k cap] w fun e w' => ∃ v, e = .returned v ∧ w'.ownsRow w.heap.size 41 2 v k ((xs.take k).flatMap encE) ∧ Kept [] w w' :=
  ck_Clone' w g k cap (xs.take k) (by simp; omega) hn (fun j v h => hO.cells (g := g) rfl j v (take_flat encE xs k j v h)) (hO.lt g rfl).2

theorem comIn_snoc (cx : Clk) (d ps : Int) (acc : List (Int × Nat)) (k : Nat) (h : k < cx.al.length) (b : Bool) (hb : cx.al[k].fires d = b) :
    acc ++ (firedTo cx.al d (k + 1)).map (fun i => (ps, i)) = (acc ++ (firedTo cx.al d k).map fun i => (ps, i)) ++ bif b then [(ps, k)] else [] := by
  rw [firedTo_succ, List.getElem?_eq_getElem h, Option.getD_some, hb]
  cases b <;> simp

set_option maxHeartbeats 3200000 in
set_option maxRecDepth 20000 in
theorem ck_Coming (w : World) (p q : Nat) (c : Clk) (most : Int) (h : ClockAt w p q c) (R : Ending → World → Prop)
    (r : ∀ v w', w'.ownsRow w.heap.size 41 2 v (c.coming most).length ((c.coming most).flatMap encE) → Kept [] w w' → R (.returned v) w') :
    Calls Try.prog 22 #[.pointer (some ⟨p, 0, none⟩), .int .i64 most] w (Fin R) := by
  obtain ⟨i0, hi, hz0, hz1, hz2⟩ := info_parts Try.info41
  have h0 := h.c0
  have hcopy := ck_Copy' w p q c h
  have hn := h.wf.n
  obtain ⟨M, hM⟩ : ∃ M, M = min most 65536 := ⟨_, rfl⟩
  have r1 : ∀ v w', w'.ownsRow w.heap.size 41 2 v ((comingGo (M.toNat + 1) c.al 0 M.toNat []).take M.toNat).length (((comingGo (M.toNat + 1) c.al 0 M.toNat []).take M.toNat).flatMap encE) → Kept [] w w' → R (.returned v) w' := by
    intro v w' h1 h2
    refine r v w' ?_ h2
    unfold Clk.coming
    rw [← hM]
    exact h1
  have hM6 : M ≤ 65536 := by omega
  clear r
  generalize hfin : comingGo (M.toNat + 1) c.al 0 M.toNat [] = fin at r1
  have HFIN := Lib.hid hfin; clear hfin
  have HM := Lib.hid hM; clear hM
  go_enter Try.func22, Try.ntmps22
  go_upto_region 7 with (first | (go_at_call 92; go_in) | (go_at_call 34; refine hcopy.mono ?_; rintro e W ⟨xp, xq, rfl, hx1, hx2, hX, hKX⟩))
  go_cut [1] (fun v wr => v = .int .i64 M ∧ W = wr)
  case first =>
    rcases Int.lt_or_le 65536 most with hmo | hmo
    · have hM' : M = 65536 := by have := HM.out; omega
      go_wp2
      go_meet
      exact ⟨by rw [hM'], rfl⟩
    · have hM' : M = most := by have := HM.out; omega
      subst hM'
      go_wp2
      go_meet
      exact ⟨rfl, rfl⟩
  case rest =>
    obtain ⟨rfl, rfl⟩ := hcut
    go_upto_block 0 with (fail)
    go_cut [6] (fun v wr => ComEnd w W.heap.size M.toNat fin v wr)
    case rest =>
      obtain ⟨hO, hl, hK, hB⟩ := hcut
      rcases hO.2 with ⟨rfl, h1⟩ | ⟨g, cap, cur, rfl, hbg, hg, hnc, hcm, hcs, htk⟩
      · obtain rfl : fin = [] := List.eq_nil_of_length_eq_zero h1
        have r2 := r1 (.slice none 0 0) wc (by simpa using World.ownsRow_nil _ _ _ _) hK
        have hc := ck_CloneNil wc
        clear r1 HFIN hO h1 hcopy h h0 hX hKX
        rcases Int.lt_or_le M 0 with hm | hm
        · go_wp2_with (go_at_call 95; refine hc.mono ?_; rintro e w2 ⟨rfl, rfl⟩)
          go_ret
          exact r2
        · go_wp2_with (go_at_call 95; refine hc.mono ?_; rintro e w2 ⟨rfl, rfl⟩)
          all_goals go_ret
          all_goals exact r2
      · have hc := fun k hk hk2 => ck_ClonePart wc _ g _ cap k fin hO rfl hk hk2
        have hsz := hK.size
        have hcap : cap ≤ 9223372036854775807 := by unfold maxLen at hcm; exact hcm
        have fin' : ∀ k, k ≤ fin.length → k = min M.toNat fin.length → ∀ v w2, w2.ownsRow wc.heap.size 41 2 v k ((fin.take k).flatMap encE) → Kept [] wc w2 → R (.returned v) w2 := by
          intro k hk he v w2 h3 h4
          refine r1 v w2 ?_ (hK.trans h4)
          have e1 : fin.take M.toNat = fin.take k := by
            rcases Nat.le_total M.toNat fin.length with h5 | h5
            · rw [show k = M.toNat by omega]
            · rw [List.take_of_length_le h5, List.take_of_length_le (by omega)]
          rw [e1, List.length_take, Nat.min_eq_left hk]
          exact owns_base h3 hsz
        have hn3 : fin.length ≤ 9223372036854775807 := by omega
        have HO := Lib.hid hO
        have HC := Lib.hid hcs
        have HT := Lib.hid htk
        have HG := Lib.hid hg
        clear r1 HFIN hcopy h h0 hX hKX hO hcs htk hg
        rcases Int.lt_or_le M 0 with hm | hm
        · go_wp2_with (go_at_call 95; refine (hc _ (by omega) (by omega)).mono ?_; rintro e w2 ⟨v, rfl, h3, h4⟩)
          all_goals go_ret
          all_goals exact fin' _ (by omega) (by omega) _ _ h3 h4
        · rcases Int.lt_or_le M fin.length with hm2 | hm2
          · go_wp2_with (go_at_call 95; refine (hc _ (by omega) (by omega)).mono ?_; rintro e w2 ⟨v, rfl, h3, h4⟩)
            all_goals go_ret
            all_goals exact fin' _ (by omega) (by omega) _ _ h3 h4
          · go_wp2_with (go_at_call 95; refine (hc _ (by omega) (by omega)).mono ?_; rintro e w2 ⟨v, rfl, h3, h4⟩)
            all_goals go_ret
            all_goals exact fin' _ (by omega) (by omega) _ _ h3 h4
    case first =>
      have hxp := hX.row.lt
      have hxq := hX.arow.lt
      have cm1 := hX.wf.m1
      have cm0 := hX.wf.m0
      have hlen0 := hX.wf.n
      have hcw := hX.wf
      go_wp2_with (fail)
      go_loopg [6, 7] (M.toNat + 1) (fun f v ps wr => ComOut w W.heap.size xp xq c M.toNat fin f v ps wr)
      case atStart => exact ⟨c.al, 0, [], rfl, by omega, by simp, by simp, HFIN.out, by simp, hX, World.ownsRow_nil _ _ _ _, hKX, Nat.le_refl _⟩
      case round =>
        obtain ⟨al, pv, acc, rfl, hp0, hp1, hf, hgo, hal, hC, hO, hK, hB⟩ := hrel
        clear hX hKX hcopy h h0 r1 HFIN
        obtain ⟨sa, scap, rfl, hs1, hs2⟩ := owns_slice hO
        have hs3 : scap ≤ 9223372036854775807 := by unfold maxLen at hs2; exact hs2
        by_cases hlm : acc.length < M.toNat
        · obtain ⟨f, rfl⟩ : ∃ f, gk = f + 1 := ⟨gk - 1, by omega⟩
          have hsoon := ck_soonest' wr xp xq _ hC
          simp only [comingGo, hlm, if_true] at hgo
          dsimp only at hsoon
          have hle := soonest_le al
          have hbd := soonest_bd (m := c.most) (by omega) al hC.wf.a
          have hfp := fired_pos al
          generalize hsx : soonest al = sx at *
          obtain ⟨d, any⟩ := sx
          dsimp only at *
          cases any with
          | false =>
            obtain rfl : acc = fin := by simpa using hgo
            have hend : ∀ w2, Kept [] wr w2 → ComEnd w W.heap.size M.toNat acc (.slice sa acc.length scap) w2 := fun w2 hk => ⟨owns_kept hO hk (by simp), hal, hK.trans hk, Nat.le_trans hB hk.size⟩
            have hlm' : (acc.length : Int) < M := by omega
            clear hle hbd hfp hgo hO hC
            go_wp2_with (go_at_call 94; refine hsoon.mono ?_; rintro e w2 ⟨rfl, hk2⟩)
            go_meet
            exact hend _ hk2
          | true =>
            have hlm' : (acc.length : Int) < M := by omega
            have hC2 := fun w2 (hk : Kept [] wr w2) => hC.kept hk (by simp) (by simp)
            have hO2 := fun w2 (hk : Kept [] wr w2) => owns_kept hO hk (by simp)
            have hfpos := hfp rfl
            obtain ⟨hd0, hd1⟩ := hbd
            have hps : pv + d ≤ 140737488355328 := by omega
            have hps0 : 0 ≤ pv + d := by omega
            have hNl := hC.wf.n
            have hgo' : comingGo f (al.map (·.step d)) (pv + d) M.toNat (acc ++ (fired al d).map fun i => (pv + d, i)) = fin := hgo
            have HGO := Lib.hid hgo'
            have hnl : al.length ≤ 64 := hNl
            clear hgo hgo' hfp hO hC hNl
            go_wp2_with (first | (go_at_call 94; refine hsoon.mono ?_; rintro e w2 ⟨rfl, hk2⟩; have hC3 := hC2 w2 hk2; have g4 := hC3.c4; dsimp only at g4))
            have hI0 : ComIn w W.heap.size xp xq { c with al := al } d (pv + d) acc 0 (.slice sa acc.length scap) w2 := ⟨by rw [Clk.mid_zero]; exact hC3, by simpa [firedTo] using hO2 w2 hk2, hK.trans hk2, Nat.le_trans hB hk2.size⟩
            have hcxw := hC3.wf
            have hIe : ∀ v w3, ComIn w W.heap.size xp xq { c with al := al } d (pv + d) acc al.length v w3 → ComOut w W.heap.size xp xq c M.toNat fin f v (.int .u64 (pv + d)) w3 := by
              intro v w3 ⟨i1, i2, i3, i4⟩
              have e : ({ c with al := al } : Clk).mid d al.length = { c with al := al.map (·.step d) } := Clk.mid_all { c with al := al } d
              rw [e] at i1
              have hfl := firedTo_length al d al.length
              refine ⟨al.map (·.step d), pv + d, acc ++ (fired al d).map fun i => (pv + d, i), rfl, hps0, ?_, ?_, HGO.out, ?_, i1, i2, i3, i4⟩
              · simp only [List.length_append, List.length_map]; omega
              · simp only [List.length_append, List.length_map]; omega
              · have : (fired al d).length ≤ 64 := Nat.le_trans hfl hnl
                simp only [List.length_append, List.length_map]; omega
            have hle' : ∀ a ∈ al, a.set = true → d ≤ a.left := fun a ha hs => (hle a ha hs).2
            have hlx : al.length = ({ c with al := al } : Clk).al.length := rfl
            have hmx : c.most = ({ c with al := al } : Clk).most := rfl
            have hle2 : ∀ a ∈ ({ c with al := al } : Clk).al, a.set = true → d ≤ a.left := hle'
            clear hle hle' hsoon hC2 hO2 HGO hC3 hsx
            generalize hcx : ({ c with al := al } : Clk) = cx at *
            generalize al.length = N at *
            clear hcx
            have HL := Lib.hid hlx; clear hlx
            have HX := Lib.hid hmx; clear hmx
            obtain ⟨wo, rfl⟩ : ∃ wo : World, wo = wr := ⟨_, rfl⟩
            have hxne : xp ≠ xq := hI0.1.ne
            have hxne' : xq ≠ xp := Ne.symm hxne
            have HI := Lib.hid hI0; clear hI0
            go_loopw [6, 41] (fun v i wr => ∃ k : Nat, k ≤ N ∧ i = .int .i64 k ∧ ComIn w W.heap.size xp xq cx d (pv + d) acc k v wr) (fun _ i _ => N - (intOf i).toNat)
            case atStart => exact ⟨0, Nat.zero_le _, rfl, HI.out⟩
            case round =>
              obtain ⟨k, hk, rfl, hT⟩ := hrel
              by_cases hlt : k < N
              · obtain ⟨hC, hO, hKw, hBw⟩ := hT
                have hla : k < cx.al.length := by have := HL.out; omega
                have hget := cx.mid_get d k hla
                have hsu := cx.mid_succ d k hla
                have hsn := fun b => comIn_snoc cx d (pv + d) acc k hla b
                have hq : Hid ((acc ++ (firedTo cx.al d k).map fun i => (pv + d, i)).length ≤ 65536 + 64) := by
                  have h1 := firedTo_length cx.al d k
                  show _ ≤ _
                  simp only [List.length_append, List.length_map]
                  have := HL.out
                  omega
                have hwf := hC.wf.a _ (List.mem_of_getElem? hget)
                have hdl := hle2 _ (List.getElem_mem hla)
                have hll := cx.mid_length d k
                have hmm : (cx.mid d k).most = c.most := by have := HX.out; exact this.symm
                generalize cx.al[k] = a at *
                have HS := Lib.hid hsu; clear hsu
                have HF := Lib.hid hsn; clear hsn
                have HG := Lib.hid hget; clear hget
                have g4 := hC.c4
                rw [hll, ← HL.out] at g4
                have a0 := hC.a0 HG.out
                have a1 := hC.a1 HG.out
                have a2 := hC.a2 HG.out
                have q0 := hC.arow.free (k * 3)
                have q1 := hC.arow.free (k * 3 + 1)
                have q2 := hC.arow.free (k * 3 + 2)
                have l0 := hwf.l0
                have l1 := hwf.l1
                have y0 := hwf.c0
                have y1 := hwf.c1
                rw [hmm] at l1 y1
                obtain ⟨s, l, y⟩ := a
                dsimp only at a0 a1 a2 l0 l1 y0 y1 hdl
                cases s with
                | false =>
                  clear hmm hll
                  go_wp2
                  go_roundw
                  case rel =>
                    refine ⟨k + 1, by omega, by go_num, ?_, ?_, hKw, hBw⟩
                    · rw [HS.out, show Alm.step ⟨false, l, y⟩ d = ⟨false, l, y⟩ from rfl, Clk.set_same HG.out]; exact hC
                    · rw [HF.out false (by simp [Alm.fires])]; simpa using hO
                  case measure => simp [intOf]; omega
                | true =>
                  have e0 := hwf.on rfl
                  have hdl := hdl rfl
                  by_cases h1 : d < l
                  · have hC' := hC.setA HG.out ⟨true, l - d, y⟩ 1 (.int .u64 (l - d)) (by omega) rfl ⟨by simp; omega, by rw [hmm]; simp; omega, hwf.c0, hwf.c1, fun _ => by simp; omega, fun h => by cases h⟩
                    have hO' := ownsRow_setCell_below (a := ⟨xq, k * 3 + 1, none⟩) hO hxq (.int .u64 (l - d))
                    have hK' : Kept [] w (wr.setCell ⟨xq, k * 3 + 1, none⟩ (.int .u64 (l - d))) := hKw.setCell (.inr hx2) _
                    have d1 : (0 : Int) < l - d := by omega
                    clear hC hO hKw hwf e0 hmm hll
                    go_wp2
                    go_roundw
                    case rel =>
                      refine ⟨k + 1, by omega, by go_num, ?_, ?_, hK', by simpa using hBw⟩
                      · rw [HS.out, show Alm.step ⟨true, l, y⟩ d = ⟨true, l - d, y⟩ from by simp [Alm.step]; omega]; exact hC'
                      · rw [HF.out false (by simp [Alm.fires]; omega)]; simpa using hO'
                    case measure => simp [intOf]; omega
                  · obtain rfl : l = d := by omega
                    have hC' := hC.1.setA HG.out ⟨true, 0, y⟩ 1 (.int .u64 0) (by omega) rfl
                    have hO' := ownsRow_setCell_below (a := ⟨xq, k * 3 + 1, none⟩) hO hxq (.int .u64 0)
                    have hK' : Kept [] w (wr.setCell ⟨xq, k * 3 + 1, none⟩ (.int .u64 0)) := hKw.setCell (.inr hx2) _
                    have hget' : (({ (cx.mid l k) with al := (cx.mid l k).al.set k ⟨true, 0, y⟩ } : Clk).al)[k]? = some ⟨true, 0, y⟩ := by
                      simp [hll, hla]
                    have HG' := Lib.hid hget'; clear hget'
                    have hkx : k < (cx.mid l k).al.length := by rw [hll]; exact hla
                    clear hC hO hKw hwf hmm hll
                    by_cases hy : y = 0
                    · subst hy
                      go_wp2_with (at_builtin; go_loud (refine wpList_append_own _ rfl (.tmp 68) (.tmp 72) 37 rfl W.heap.size 41 i0 _ 2 16 Try.underlying37 hi hz0 hz1 hz2 rfl (by decide) _ _ _ rfl (hO'.alloc _) ⟨wr.heap.size, 0, none⟩ 1 1 [.int .u64 (pv + l), .int .i64 k] rfl rfl (by intro j u hj; match j, hj with | 0, hj => (simp at hj; subst hj; simp [Addr.add, go_sem]) | 1, hj => (simp at hj; subst hj; simp [Addr.add, go_sem])) (by simp [Value.oneCell']) (by have := hq.out; unfold maxLen; omega) (by have := hq.out; omega) (by simp; omega) ?_); intro v' w1 hown' hgrow hnn; obtain ⟨hk1, hC1⟩ := raw_behind hC' hO' hK' hgrow hxp hxq (by omega); have b0 := hC1.a0 HG'.out; have b1 := hC1.a1 HG'.out; have b2 := hC1.a2 HG'.out; have z0 := hC1.arow.free (k * 3); have z1 := hC1.arow.free (k * 3 + 1); have z2 := hC1.arow.free (k * 3 + 2); have hs1' := hgrow.size; dsimp only at b0 b1 b2)
                      go_roundw
                      case rel =>
                        refine ⟨k + 1, by omega, by go_num, ?_, ?_, ?_, ?_⟩
                        · have hz := ((hC1.setA HG'.out ⟨true, 0, 0⟩ 1 (.int .u64 0) (by omega) rfl).set3 (i := k) (by simpa using hkx) Alm.zero)
                          refine ⟨?_, Clk.mid_wf hcxw (by omega) _⟩
                          rw [HS.out, show Alm.step ⟨true, l, 0⟩ l = Alm.zero from by simp [Alm.step]]
                          simp only [List.set_set] at hz
                          exact hz
                        · rw [HF.out true (by simp [Alm.fires])]
                          have h5 := ownsRow_setCell_below (a := ⟨xq, k * 3 + 2, none⟩) (ownsRow_setCell_below (a := ⟨xq, k * 3 + 1, none⟩) (ownsRow_setCell_below (a := ⟨xq, k * 3, none⟩) (ownsRow_setCell_below (a := ⟨xq, k * 3 + 1, none⟩) hown' hxq (.int .u64 0)) hxq (.bool false)) hxq (.int .u64 0)) hxq (.int .u32 0)
                          simpa [encE, Nat.add_assoc] using h5
                        · exact (((hk1.setCell (.inr hx2) _).setCell (.inr hx2) _).setCell (.inr hx2) _).setCell (.inr hx2) _
                        · simp at hs1' ⊢; omega
                      case measure => simp [intOf]; omega
                    · have hy' : (y == 0) = false := by simpa using hy
                      go_wp2_with (at_builtin; go_loud (refine wpList_append_own _ rfl (.tmp 68) (.tmp 72) 37 rfl W.heap.size 41 i0 _ 2 16 Try.underlying37 hi hz0 hz1 hz2 rfl (by decide) _ _ _ rfl (hO'.alloc _) ⟨wr.heap.size, 0, none⟩ 1 1 [.int .u64 (pv + l), .int .i64 k] rfl rfl (by intro j u hj; match j, hj with | 0, hj => (simp at hj; subst hj; simp [Addr.add, go_sem]) | 1, hj => (simp at hj; subst hj; simp [Addr.add, go_sem])) (by simp [Value.oneCell']) (by have := hq.out; unfold maxLen; omega) (by have := hq.out; omega) (by simp; omega) ?_); intro v' w1 hown' hgrow hnn; obtain ⟨hk1, hC1⟩ := raw_behind hC' hO' hK' hgrow hxp hxq (by omega); have b0 := hC1.a0 HG'.out; have b1 := hC1.a1 HG'.out; have b2 := hC1.a2 HG'.out; have z0 := hC1.arow.free (k * 3); have z1 := hC1.arow.free (k * 3 + 1); have z2 := hC1.arow.free (k * 3 + 2); have hs1' := hgrow.size; dsimp only at b0 b1 b2)
                      go_roundw
                      case rel =>
                        refine ⟨k + 1, by omega, by go_num, ?_, ?_, ?_, ?_⟩
                        · have hz := hC1.setA HG'.out ⟨true, y, y⟩ 1 (.int .u64 y) (by omega) rfl
                          refine ⟨?_, Clk.mid_wf hcxw (by omega) _⟩
                          rw [HS.out, show Alm.step ⟨true, l, y⟩ l = ⟨true, y, y⟩ from by simp [Alm.step, hy]]
                          simpa using hz
                        · rw [HF.out true (by simp [Alm.fires])]
                          have h5 := ownsRow_setCell_below (a := ⟨xq, k * 3 + 1, none⟩) hown' hxq (.int .u64 y)
                          simpa [encE, Nat.add_assoc] using h5
                        · exact hk1.setCell (.inr hx2) _
                        · simp at hs1' ⊢; omega
                      case measure => simp [intOf]; omega
              · obtain rfl : k = N := by omega
                have hend := hIe _ _ hT
                go_wp2
                go_roundg f
                case measure => omega
                case rel => exact hend
        · have hfin : acc = fin := by
            cases gk with
            | zero => simpa [comingGo] using hgo
            | succ f => simpa [comingGo, hlm] using hgo
          subst hfin
          have hend : ComEnd w W.heap.size M.toNat acc (.slice sa acc.length scap) wr := ⟨hO, hal, hK, hB⟩
          have hlm' : M ≤ (acc.length : Int) := by omega
          clear hgo hO hC
          go_wp2
          go_meet
          exact hend
end Go.Proofs.Ytopgfhcgfpceaaa
