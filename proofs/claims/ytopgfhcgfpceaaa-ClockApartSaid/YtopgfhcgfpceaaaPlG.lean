/- The law ClockApart: the walk. -/
import Derived.Test.YtopgfhcgfpceaaaPlF
namespace Go.Proofs.Ytopgfhcgfpceaaa
open Go.RowKit

/-- Two pairs of clocks that the law has made, apart from one another. -/
structure Two (W w : World) (pc qc pd qd : Nat) (c : Clk) (po qo pp qp : Nat) (o : Clk) : Prop where
  a : Own W w pc qc pd qd c
  b : Own W w po qo pp qp o
  off : ∀ x, x ∈ [pc, qc, pd, qd] → x ∉ [po, qo, pp, qp]

theorem Own.lt {W w : World} {pc qc pd qd : Nat} {c : Clk} (h : Own W w pc qc pd qd c) : ∀ x, x ∈ [pc, qc, pd, qd] → x < w.heap.size := by
  have h1 := h.b.hc.row.lt
  have h2 := h.b.hc.arow.lt
  have h3 := h.b.hd.lt
  have h4 := h.b.n5
  intro x hx
  simp at hx
  omega

theorem Two.swap {W w : World} {pc qc pd qd po qo pp qp : Nat} {c o : Clk} (h : Two W w pc qc pd qd c po qo pp qp o) : Two W w po qo pp qp o pc qc pd qd c :=
  ⟨h.b, h.a, fun x hx hy => h.off x hy hx⟩

theorem Two.left {W w w' : World} {pc qc pd qd qd' po qo pp qp : Nat} {c c' o : Clk} (h : Two W w pc qc pd qd c po qo pp qp o) (hq : qd' = qd ∨ qd' = pd ∨ w.heap.size ≤ qd') (hb : Both w' pc qc pd qd' c') (hk : Kept [pc, qc, pd, qd] w w') : Two W w' pc qc pd qd' c' po qo pp qp o := by
  have ha := h.a.then hq hb hk
  have hl := h.b.lt
  have hoff := h.off
  have hn : ∀ x, x ∈ [po, qo, pp, qp] → x ∉ [pc, qc, pd, qd] := fun x hx hy => hoff x hy hx
  refine ⟨ha, ⟨h.b.b.kept hk (hn _ (by simp)) (hn _ (by simp)) (hn _ (by simp)) (hn _ (by simp)), ha.k, h.b.c0, h.b.c1, h.b.d0, h.b.d1⟩, fun x hx hy => ?_⟩
  have h1 := hl x hy
  have h2 := hn x hy
  simp at hx h2
  omega

theorem Two.right {W w w' : World} {pc qc pd qd qp' po qo pp qp : Nat} {c o' o : Clk} (h : Two W w pc qc pd qd c po qo pp qp o) (hq : qp' = qp ∨ qp' = pp ∨ w.heap.size ≤ qp') (hb : Both w' po qo pp qp' o') (hk : Kept [po, qo, pp, qp] w w') : Two W w' pc qc pd qd c po qo pp qp' o' :=
  (h.swap.left hq hb hk).swap

theorem Two.kept {W w w' : World} {pc qc pd qd po qo pp qp : Nat} {c o : Clk} (h : Two W w pc qc pd qd c po qo pp qp o) (hk : Kept [] w w') : Two W w' pc qc pd qd c po qo pp qp o :=
  ⟨h.a.kept hk, h.b.kept hk, h.off⟩

/-- A second pair, made behind the first. -/
theorem two_new {W w w' : World} {pc qc pd qd po qo pp qp : Nat} {c o : Clk} (h : Own W w pc qc pd qd c) (hk : Kept [] w w') (h2 : Own w w' po qo pp qp o) : Two W w' pc qc pd qd c po qo pp qp o := by
  have hl := h.lt
  have h3 := h.k.size
  have := h2.c0; have := h2.c1; have := h2.d0; have := h2.d1
  refine ⟨h.kept hk, ⟨h2.b, h.k.trans hk, by omega, by omega, by omega, by omega⟩, fun x hx hy => ?_⟩
  have := hl x hx
  simp at hy
  omega

/-- Four made at once: the clocks first, the document's behind them. -/
theorem two_made {W w0 w1 w2 w3 : World} {pc qc po qo pd q pp r : Nat} {c o : Clk} (k0 : Kept [] W w0) (hp : W.heap.size ≤ pc) (hq : W.heap.size ≤ qc) (hc : ClockAt w0 pc qc c) (k1 : Kept [] w0 w1) (hp2 : w0.heap.size ≤ po) (hq2 : w0.heap.size ≤ qo) (ho : ClockAt w1 po qo o)
    (k2 : Kept [] w1 w2) (h1 : w1.heap.size ≤ pd) (h2 : w1.heap.size ≤ q) (hd : RefAt w2 pd q c) (k3 : Kept [] w2 w3) (h3 : w2.heap.size ≤ pp) (h4 : w2.heap.size ≤ r) (he : RefAt w3 pp r o) : ∃ qd qp, Two W w3 pc qc pd qd c po qo pp qp o := by
  obtain ⟨q', hq1, hqs, hdd⟩ := hd.near
  obtain ⟨r', hr1, hrs, hee⟩ := he.near
  have a1 := hc.row.lt
  have a2 := hc.arow.lt
  have a3 := ho.row.lt
  have a4 := ho.arow.lt
  have a5 := hdd.lt
  have s0 := k0.size
  have s1 := k1.size
  have s2 := k2.size
  have s3 := k3.size
  refine ⟨q', r', ⟨⟨(hc.kept (k1.trans k2) (by simp) (by simp)).kept k3 (by simp) (by simp), hdd.kept k3 (by simp) (by simp), by omega, by omega, by omega, by omega, by omega⟩, ((k0.trans k1).trans k2).trans k3, by omega, by omega, by omega, by omega⟩,
    ⟨⟨ho.kept (k2.trans k3) (by simp) (by simp), hee, by omega, by omega, by omega, by omega, hrs⟩, ((k0.trans k1).trans k2).trans k3, by omega, by omega, by omega, by omega⟩, fun x hx hy => ?_⟩
  simp at hx hy
  omega

/-- A script's call, where it lies. -/
theorem act_cells {W : World} {sa : Option Addr} {n : Nat} {xs : List CAct} (hr : Reads W W.heap.size sa n 4 (xs.flatMap CAct.enc)) (hx : xs.length = n) (hw : ∀ x ∈ xs, x.wf) (i : Nat) (hi : i < n) :
    ∃ b off kd al A B, sa = some ⟨b, off, none⟩ ∧ (⟨kd, al, A, B⟩ : CAct).wf ∧ ∀ w, Kept [] W w → w.cell? ⟨b, off + i * 4, none⟩ = some (.int .i64 kd) ∧ w.cell? ⟨b, off + i * 4 + 1, none⟩ = some (.int .i64 al) ∧ w.cell? ⟨b, off + i * 4 + 2, none⟩ = some (.int .u32 A) ∧ w.cell? ⟨b, off + i * 4 + 3, none⟩ = some (.int .u32 B) := by
  have hlx : i < xs.length := by omega
  obtain ⟨b, off, rfl, hb1, hcell⟩ := hr.2 (by omega)
  have hget : xs[i]? = some xs[i] := List.getElem?_eq_getElem hlx
  have hxw := hw _ (List.getElem_mem hlx)
  have s0 := hcell (i * 4) _ (by rw [show i * 4 = i * 4 + 0 by omega, flat_get CAct.enc_length _ i 0 _ hget (by omega)]; rfl)
  have s1 := hcell (i * 4 + 1) _ (by rw [flat_get CAct.enc_length _ i 1 _ hget (by omega)]; rfl)
  have s2 := hcell (i * 4 + 2) _ (by rw [flat_get CAct.enc_length _ i 2 _ hget (by omega)]; rfl)
  have s3 := hcell (i * 4 + 3) _ (by rw [flat_get CAct.enc_length _ i 3 _ hget (by omega)]; rfl)
  rw [← Nat.add_assoc] at s1 s2 s3
  generalize xs[i] = x at *
  obtain ⟨kd, al, A, B⟩ := x
  exact ⟨b, off, kd, al, A, B, rfl, hxw, fun w hk => ⟨hk.cell s0 (by simp), hk.cell s1 (by simp), hk.cell s2 (by simp), hk.cell s3 (by simp)⟩⟩

set_option maxHeartbeats 1600000 in
set_option maxRecDepth 20000 in
theorem apart_bad (W : World) (nm : ByteArray) (mx bs mn : Int) (sa sb : Option Addr) (n1 c1 n2 c2 : Nat) (h : ¬ Clk.may mx mn 3) :
    Calls Try.prog 6 #[.agg #[.string nm, .int .u32 mx, .int .u32 bs, .int .u32 mn], .slice sa n1 c1, .slice sb n2 c2] W fun e w' => e = .returned (.bool true) ∧ Kept [] W w' := by
  have h' : ¬ Clk.may mx mn 2 := by unfold Clk.may at h ⊢; omega
  have hb3 := fun w => ck_New_bad nm mx bs mn 3 w h
  have hb2 := fun w => ck_New_bad nm mx bs mn 2 w h'
  have hr3 := fun w => rf_New_bad nm mx bs mn 3 w h
  have hr2 := fun w => rf_New_bad nm mx bs mn 2 w h'
  have hbox : Row (W.alloc (.cells #[.string nm, .int .u32 mx, .int .u32 bs, .int .u32 mn] 24)) W.heap.size 24 [.string nm, .int .u32 mx, .int .u32 bs, .int .u32 mn] := Row.new' rfl
  have hk0 : Kept [] W (W.alloc (.cells #[.string nm, .int .u32 mx, .int .u32 bs, .int .u32 mn] 24)) := (Kept.refl _ _).alloc _
  clear h h'
  go_enter Try.func6, Try.ntmps6
  go_wp2_with (first | (go_at_call 17; with_reducible refine (hb3 _).mono ?_; rintro e w0 ⟨rfl, kk⟩; have hba := hbox.kept kk (by simp); have xa0 := hba.cell (i := 0) rfl; have xa1 := hba.cell (i := 1) rfl; have xa2 := hba.cell (i := 2) rfl; have xa3 := hba.cell (i := 3) rfl) | (go_at_call 17; with_reducible refine (hb2 _).mono ?_; rintro e w1 ⟨rfl, k1⟩; have hbb := hba.kept k1 (by simp); have xb0 := hbb.cell (i := 0) rfl; have xb1 := hbb.cell (i := 1) rfl; have xb2 := hbb.cell (i := 2) rfl; have xb3 := hbb.cell (i := 3) rfl) | (go_at_call 32; with_reducible refine (hr3 _).mono ?_; rintro e w2 ⟨pd, rfl, hpd, hcell, k2⟩; have hbc := hbb.kept k2 (by simp); have xc0 := hbc.cell (i := 0) rfl; have xc1 := hbc.cell (i := 1) rfl; have xc2 := hbc.cell (i := 2) rfl; have xc3 := hbc.cell (i := 3) rfl) | (go_at_call 32; with_reducible refine (hr2 _).mono ?_; rintro e w3 ⟨pp, rfl, hpp, hcell2, k3⟩) | (go_at_call 18; refine (law_alive _).mono ?_; rintro e w9 ⟨rfl, k9⟩))
  go_ret
  exact ⟨rfl, ((((hk0.trans kk).trans k1).trans k2).trans k3).trans k9⟩

set_option maxHeartbeats 3200000 in
set_option maxRecDepth 20000 in
theorem apart_law (W : World) (nm : ByteArray) (mx bs mn : Int) (sa sb : Option Addr) (n1 c1 n2 c2 : Nat) (xs ys : List CAct) (h : Clk.may mx mn 3) (hn1 : n1 ≤ 9223372036854775807) (hn2 : n2 ≤ 9223372036854775807)
    (hra : Reads W W.heap.size sa n1 4 (xs.flatMap CAct.enc)) (hxa : xs.length = n1) (hwa : ∀ x ∈ xs, x.wf) (hrb : Reads W W.heap.size sb n2 4 (ys.flatMap CAct.enc)) (hxb : ys.length = n2) (hwb : ∀ x ∈ ys, x.wf) :
    Calls Try.prog 6 #[.agg #[.string nm, .int .u32 mx, .int .u32 bs, .int .u32 mn], .slice sa n1 c1, .slice sb n2 c2] W fun e w' => e = .returned (.bool true) ∧ Kept [] W w' := by
  have h' : Clk.may mx mn 2 := by unfold Clk.may at h ⊢; omega
  have hc3 := fun w => ck_New' nm mx bs mn 3 w h
  have hc2 := fun w => ck_New' nm mx bs mn 2 w h'
  have hr3 := fun w => rf_New nm mx bs mn 3 w h
  have hr2 := fun w => rf_New nm mx bs mn 2 w h'
  have hen : ∀ w p, (binOp .eql 26 (.pointer (some ⟨p, 0, none⟩)) (.pointer none)).run Try.prog w = .ok (.bool false) w := fun w p => by kernel_rfl
  have hbox : Row (W.alloc (.cells #[.string nm, .int .u32 mx, .int .u32 bs, .int .u32 mn] 24)) W.heap.size 24 [.string nm, .int .u32 mx, .int .u32 bs, .int .u32 mn] := Row.new' rfl
  have hk0 : Kept [] W (W.alloc (.cells #[.string nm, .int .u32 mx, .int .u32 bs, .int .u32 mn] 24)) := (Kept.refl _ _).alloc _
  have hsz : (W.alloc (.cells #[.string nm, .int .u32 mx, .int .u32 bs, .int .u32 mn] 24)).heap.size = W.heap.size + 1 := by simp
  have hca := fun i hi => act_cells hra hxa hwa i hi
  have hcb := fun i hi => act_cells hrb hxb hwb i hi
  rw [show ((3 : Int)).toNat = 3 from rfl] at hc3
  rw [show ((2 : Int)).toNat = 2 from rfl] at hc2
  simp only [show ((3 : Nat) : Int) = 3 from rfl] at hr3
  simp only [show ((2 : Nat) : Int) = 2 from rfl] at hr2
  generalize Clk.fresh mx mn 3 = cf3 at *
  generalize Clk.fresh mx mn 2 = cf2 at *
  clear h h' hra hxa hwa hrb hxb hwb
  go_enter Try.func6, Try.ntmps6
  go_wp2_with (first | (go_at_call 17; with_reducible refine (hc3 _).mono ?_; rintro e w0 ⟨pc, qc, rfl, hp0, hq0, hC0, kk⟩; have hba := hbox.kept kk (by simp); have xa0 := hba.cell (i := 0) rfl; have xa1 := hba.cell (i := 1) rfl; have xa2 := hba.cell (i := 2) rfl; have xa3 := hba.cell (i := 3) rfl) | (go_at_call 17; with_reducible refine (hc2 _).mono ?_; rintro e w1 ⟨po, qo, rfl, hp1, hq1, hC1, k1⟩; have hbb := hba.kept k1 (by simp); have xb0 := hbb.cell (i := 0) rfl; have xb1 := hbb.cell (i := 1) rfl; have xb2 := hbb.cell (i := 2) rfl; have xb3 := hbb.cell (i := 3) rfl) | (go_at_call 32; with_reducible refine (hr3 _).mono ?_; rintro e w2 ⟨pd, qdx, rfl, hp2, hq2, hD2, k2⟩; have hbc := hbb.kept k2 (by simp); have xc0 := hbc.cell (i := 0) rfl; have xc1 := hbc.cell (i := 1) rfl; have xc2 := hbc.cell (i := 2) rfl; have xc3 := hbc.cell (i := 3) rfl) | (go_at_call 32; with_reducible refine (hr2 _).mono ?_; rintro e w3 ⟨pp, qpx, rfl, hp3, hq3, hD3, k3⟩))
  rw [hsz] at hp0 hq0
  obtain ⟨qd0, qp0, htwo⟩ := two_made (hk0.trans kk) (by omega) (by omega) hC0 k1 hp1 hq1 hC1 k2 hp2 hq2 hD2 k3 hp3 hq3 hD3
  clear hc3 hc2 hr3 hr2 hbox hk0 hsz hba hbb hbc xa0 xa1 xa2 xa3 xb0 xb1 xb2 xb3 xc0 xc1 xc2 xc3 kk hC0 hC1 hD2 hD3 k1 k2 k3 hp0 hq0 hp1 hq1 hp2 hq2 hp3 hq3
  have HTWO := Lib.hid htwo; clear htwo
  go_loopw [15] (fun iv wr => ∃ i qd qp : Nat, ∃ c o, i ≤ max n1 n2 ∧ iv = .int .i64 i ∧ Two W wr pc qc pd qd c po qo pp qp o) (fun iv _ => max n1 n2 - (intOf iv).toNat)
  case atStart => exact ⟨0, qd0, qp0, cf3, cf2, Nat.zero_le _, rfl, HTWO.out⟩
  case round =>
    clear HTWO
    obtain ⟨i, qd, qp, c, o, hi, rfl, hT⟩ := hrel
    by_cases ha : i < n1
    · obtain ⟨b, off, kd, al, A, B, rfl, hxw, hcell⟩ := hca i ha
      obtain ⟨s0, s1, s2, s3⟩ := hcell _ hT.a.k
      clear hcell
      by_cases hb : i < n2
      · obtain ⟨b2, off2, kd2, al2, A2, B2, rfl, hxw2, hcell2⟩ := hcb i hb
        clear hca hcb
        go_wp2_with (first | (go_at_call 37; with_reducible refine (law_play _ pc qc pd qd c kd al A B hxw hT.a.b).mono ?_; rintro e w1 ⟨rfl, ⟨qd1, c1', hq1, hB1⟩, k1⟩; have hT1 := hT.left hq1 hB1 k1; obtain ⟨t0, t1, t2, t3⟩ := hcell2 _ hT1.a.k) | (go_at_call 37; with_reducible refine (law_play _ po qo pp qp o kd2 al2 A2 B2 hxw2 hT1.b.b).mono ?_; rintro e w2 ⟨rfl, ⟨qp1, o1', hq2, hB2⟩, k2⟩; have hT2 := hT1.right hq2 hB2 k2) | (go_at_call 38; with_reducible refine (law_told _ pc qc pd _ _ hT2.a.b).mono ?_; rintro e w3 ⟨rfl, k3⟩) | (go_at_call 38; with_reducible refine (law_told _ po qo pp _ _ (hT2.kept k3).b.b).mono ?_; rintro e w4 ⟨rfl, k4⟩))
        go_roundw
        case rel => exact ⟨i + 1, _, _, _, _, by omega, by go_num, (hT2.kept k3).kept k4⟩
        case measure => simp [intOf]; omega
      · clear hca hcb
        go_wp2_with (first | (go_at_call 37; with_reducible refine (law_play _ pc qc pd qd c kd al A B hxw hT.a.b).mono ?_; rintro e w1 ⟨rfl, ⟨qd1, c1', hq1, hB1⟩, k1⟩; have hT2 := hT.left hq1 hB1 k1) | (go_at_call 38; with_reducible refine (law_told _ pc qc pd _ _ hT2.a.b).mono ?_; rintro e w3 ⟨rfl, k3⟩) | (go_at_call 38; with_reducible refine (law_told _ po qo pp _ _ (hT2.kept k3).b.b).mono ?_; rintro e w4 ⟨rfl, k4⟩))
        go_roundw
        case rel => exact ⟨i + 1, _, _, _, _, by omega, by go_num, (hT2.kept k3).kept k4⟩
        case measure => simp [intOf]; omega
    · by_cases hb : i < n2
      · obtain ⟨b2, off2, kd2, al2, A2, B2, rfl, hxw2, hcell2⟩ := hcb i hb
        obtain ⟨t0, t1, t2, t3⟩ := hcell2 _ hT.a.k
        have hT1 := hT
        clear hca hcb hT hcell2
        go_wp2_with (first | (go_at_call 37; with_reducible refine (law_play _ po qo pp qp o kd2 al2 A2 B2 hxw2 hT1.b.b).mono ?_; rintro e w2 ⟨rfl, ⟨qp1, o1', hq2, hB2⟩, k2⟩; have hT2 := hT1.right hq2 hB2 k2) | (go_at_call 38; with_reducible refine (law_told _ pc qc pd _ _ hT2.a.b).mono ?_; rintro e w3 ⟨rfl, k3⟩) | (go_at_call 38; with_reducible refine (law_told _ po qo pp _ _ (hT2.kept k3).b.b).mono ?_; rintro e w4 ⟨rfl, k4⟩))
        go_roundw
        case rel => exact ⟨i + 1, _, _, _, _, by omega, by go_num, (hT2.kept k3).kept k4⟩
        case measure => simp [intOf]; omega
      · have hcp := ck_Copy' wr pc qc c hT.a.b.hc
        have HA := Lib.hid hT.a
        have HCB := Lib.hid hcb
        clear hca hcb hT
        go_wp2_with (first | (go_at_call 34; refine hcp.mono ?_; rintro e w1 ⟨pz, qz, rfl, hpz, hqz, hC1, k1⟩; have hd1 := HA.out.b.hd.kept k1 (by simp) (by simp)) | (go_at_call 36; refine (rf_Copy _ pd qd c hd1).mono ?_; rintro e w2 ⟨ps, qs, rfl, hps, hqs, hD2, k2⟩))
        obtain ⟨qs', hz⟩ := own_new (Kept.refl [] wr |>.trans k1) hpz hqz hC1 k2 hps hqs hD2
        have hT := two_new HA.out (k1.trans k2) hz
        have HT := Lib.hid hT
        clear hcp hpz hqz hC1 hps hqs hD2 hz hT hd1 k1 k2
        go_loopw [18] (fun iv wr => ∃ i qd qs : Nat, ∃ c z, i ≤ n2 ∧ iv = .int .i64 i ∧ Two W wr pc qc pd qd c pz qz ps qs z) (fun iv _ => n2 - (intOf iv).toNat)
        case atStart => exact ⟨0, _, _, _, _, Nat.zero_le _, rfl, HT.out⟩
        case round =>
          clear HT HA
          obtain ⟨j, qd, qs, c, z, hj, rfl, hT1⟩ := hrel
          by_cases hlt : j < n2
          · obtain ⟨b2, off2, kd2, al2, A2, B2, rfl, hxw2, hcell2⟩ := HCB.out j hlt
            obtain ⟨t0, t1, t2, t3⟩ := hcell2 _ hT1.a.k
            clear hcell2
            go_wp2_with (first | (go_at_call 37; with_reducible refine (law_play _ pz qz ps qs z kd2 al2 A2 B2 hxw2 hT1.b.b).mono ?_; rintro e w2 ⟨rfl, ⟨qp1, o1', hq2, hB2⟩, k2⟩; have hT2 := hT1.right hq2 hB2 k2) | (go_at_call 38; with_reducible refine (law_told _ pc qc pd _ _ hT2.a.b).mono ?_; rintro e w3 ⟨rfl, k3⟩) | (go_at_call 38; with_reducible refine (law_told _ pz qz ps _ _ (hT2.kept k3).b.b).mono ?_; rintro e w4 ⟨rfl, k4⟩))
            go_roundw
            case rel => exact ⟨j + 1, _, _, _, _, by omega, by go_num, (hT2.kept k3).kept k4⟩
            case measure => simp [intOf]; omega
          · obtain rfl : j = n2 := by omega
            go_wp2_with (first | (go_at_call 18; refine (law_alive _).mono ?_; rintro e w7 ⟨rfl, k7⟩))
            go_ret
            exact ⟨rfl, hT1.a.k.trans k7⟩

end Go.Proofs.Ytopgfhcgfpceaaa
