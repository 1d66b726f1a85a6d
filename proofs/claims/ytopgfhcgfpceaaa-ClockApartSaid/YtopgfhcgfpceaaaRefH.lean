/- The walk of package tappetref16: Coming. -/
import Derived.Test.YtopgfhcgfpceaaaRefF
import Derived.Test.YtopgfhcgfpceaaaRefG
import Derived.Deep.MidRow
namespace Go.Proofs.Ytopgfhcgfpceaaa
open Go.RowKit

/-- The copy of the alarms that Coming reckons with. -/
def AtX (w : World) (g : Nat) (a : Option Addr) (cap : Nat) (tail : List Value) (al : List Alm) : Prop :=
  (al = [] ∨ (a = some ⟨g, 0, none⟩ ∧ Row w g 212 (al.flatMap Alm.enc ++ tail))) ∧ al.length ≤ cap ∧ cap ≤ 9223372036854775807

section
variable {w : World} {g : Nat} {a : Option Addr} {cap : Nat} {tail : List Value} {al : List Alm}
theorem AtX.on (h : AtX w g a cap tail al) {i : Nat} (hi : i < al.length) : a = some ⟨g, 0, none⟩ ∧ Row w g 212 (al.flatMap Alm.enc ++ tail) := by
  rcases h.1 with h1 | h1
  · rw [h1] at hi; simp at hi
  · exact h1
theorem flat_app' {i j : Nat} {x : Alm} (hi : al[i]? = some x) (hj : j < 3) : (al.flatMap Alm.enc ++ tail)[i * 3 + j]? = x.enc[j]? := by
  have h1 := (List.getElem?_eq_some_iff.1 hi).1
  have h2 := flat_length Alm.enc_length al
  rw [List.getElem?_append_left (by omega), flat_get Alm.enc_length _ i j x hi hj]
theorem get_lt' {i : Nat} {x : Alm} (hi : al[i]? = some x) : i < al.length := (List.getElem?_eq_some_iff.1 hi).1
theorem AtX.row (h : AtX w g a cap tail al) {i : Nat} (hi : i < al.length) : Row w g 212 (al.flatMap Alm.enc ++ tail) := (h.on hi).2
theorem AtX.a0 (h : AtX w g a cap tail al) {i : Nat} {x : Alm} (hi : al[i]? = some x) : w.cell? ⟨g, i * 3, none⟩ = some (.bool x.set) :=
  (h.row (get_lt' hi)).cell (by rw [show i * 3 = i * 3 + 0 by omega, flat_app' hi (by omega)]; rfl)
theorem AtX.a1 (h : AtX w g a cap tail al) {i : Nat} {x : Alm} (hi : al[i]? = some x) : w.cell? ⟨g, i * 3 + 1, none⟩ = some (.int .u64 x.left) :=
  (h.row (get_lt' hi)).cell (by rw [flat_app' hi (by omega)]; rfl)
theorem AtX.a2 (h : AtX w g a cap tail al) {i : Nat} {x : Alm} (hi : al[i]? = some x) : w.cell? ⟨g, i * 3 + 2, none⟩ = some (.int .u32 x.cycle) :=
  (h.row (get_lt' hi)).cell (by rw [flat_app' hi (by omega)]; rfl)
theorem AtX.setA (h : AtX w g a cap tail al) {i : Nat} {x : Alm} (hi : al[i]? = some x) (x' : Alm) (j : Nat) (v : Value) (hj : j < 3) (he : x'.enc = x.enc.set j v) :
    AtX (w.setCell ⟨g, i * 3 + j, none⟩ v) g a cap tail (al.set i x') := by
  obtain ⟨e, hr⟩ := h.on (get_lt' hi)
  refine ⟨.inr ⟨e, ?_⟩, by simpa using h.2⟩
  have r := hr.set (i * 3 + j) v
  have h1 := get_lt' hi
  rw [List.set_append_left _ _ (by rw [flat_length Alm.enc_length]; omega), flat_set Alm.enc_length al i j x x' v hi hj he] at r
  exact r
theorem AtX.kept {w' : World} {S : List Nat} (h : AtX w g a cap tail al) (hk : Kept S w w') (hg : g ∉ S) : AtX w' g a cap tail al :=
  ⟨h.1.imp id fun h1 => ⟨h1.1, h1.2.kept hk hg⟩, h.2⟩
end

theorem at_of_owns {w : World} {B : Nat} {v : Value} {al : List Alm} (hO : w.ownsRow B 212 3 v al.length (al.flatMap Alm.enc)) : ∃ g a cap tail, v = .slice a al.length cap ∧ B ≤ g ∧ AtX w g a cap tail al := by
  rcases hO.2 with ⟨rfl, h1⟩ | ⟨g, cap, cur, rfl, hb, hg, h1, h2, h3, h4⟩
  · have e : al = [] := List.eq_nil_of_length_eq_zero h1
    exact ⟨B, none, 0, [], by rw [h1], Nat.le_refl _, .inl e, by omega, by omega⟩
  · refine ⟨g, some ⟨g, 0, none⟩, cap, cur.toList.drop (al.length * 3), rfl, hb, .inr ⟨rfl, ?_⟩, h1, by unfold maxLen at h2; exact h2⟩
    rw [← h4, List.take_append_drop]
    show w.heap[g]? = some (.cells cur.toList.toArray 212 (0, 0))
    simpa using hg

structure AtB (n : Nat) (al : List Alm) : Prop where
  ok : ∀ x ∈ al, x.ok
  hi : ∀ x ∈ al, x.left ≤ (n + 2) * 2147483648
  cy : ∀ x ∈ al, x.cycle ≤ 2147483648
  lo : ∀ x ∈ al, 0 ≤ x.left

theorem AtB.next {n : Nat} {al : List Alm} (h : AtB n al) {k : Nat} {x : Alm} (hk : al[k]? = some x) (hs : x.set = true) : AtB (n + 1) (al.set k x.again) := by
  have hx := List.mem_of_getElem? hk
  have h1 := h.hi x hx
  have h2 := h.cy x hx
  have h3 := h.lo x hx
  have h4 := (h.ok x hx).c0
  refine ⟨fun y hy => ?_, fun y hy => ?_, fun y hy => ?_, fun y hy => ?_⟩
  · rcases List.mem_or_eq_of_mem_set hy with h5 | rfl
    · exact h.ok y h5
    · exact Alm.ok_again (h.ok x hx) hs
  · rcases List.mem_or_eq_of_mem_set hy with h5 | rfl
    · have := h.hi y h5; omega
    · simp only [Alm.again]; omega
  · rcases List.mem_or_eq_of_mem_set hy with h5 | rfl
    · exact h.cy y h5
    · exact h2
  · rcases List.mem_or_eq_of_mem_set hy with h5 | rfl
    · exact h.lo y h5
    · simp only [Alm.again]; omega

/-- Between two rounds of Coming's outer loop. -/
def RCom (w : World) (g : Nat) (a : Option Addr) (cap N : Nat) (tail : List Value) (m : Nat) (fin : List (Int × Nat)) (f : Nat) (v : Value) (wr : World) : Prop :=
  ∃ (al : List Alm) (acc : List (Int × Nat)), m < f + acc.length ∧ acc.length ≤ m ∧ refGo f al m acc = fin ∧ AtB acc.length al ∧ al.length = N ∧ AtX wr g a cap tail al ∧ wr.ownsRow w.heap.size 41 2 v acc.length (acc.flatMap encE) ∧ Kept [] w wr

set_option maxHeartbeats 3200000 in
set_option maxRecDepth 20000 in
theorem rf_Coming (w : World) (p q : Nat) (c : Clk) (most : Int) (h : RefAt w p q c) :
    Calls Try.prog 118 #[.pointer (some ⟨p, 0, none⟩), .int .i64 most] w fun e w' => ∃ v, e = .returned v ∧ w'.ownsRow w.heap.size 41 2 v (c.coming most).length ((c.coming most).flatMap encE) ∧ Kept [] w w' := by
  obtain ⟨i0, hi, hz0, hz1, hz2⟩ := info_parts Try.info212
  obtain ⟨j0, hj, hj0, hj1, hj2⟩ := info_parts Try.info41
  have hfin := refGo_coming c h.wf most
  obtain ⟨M, hM⟩ : ∃ M, M = min most 65536 := ⟨_, rfl⟩
  rw [← hM] at hfin
  generalize c.coming most = fin at *
  obtain ⟨⟨nm, bs, a, cap, tail, hx⟩, wf⟩ := h
  have hn := wf.n
  have c6 := hx.c6
  have hl : (c.al.flatMap Alm.enc).length = c.al.length * 3 := flat_length Alm.enc_length _
  have hone := oneCell_flat Alm.oneCell c.al
  have hB : AtB 0 c.al := ⟨fun x hx => ⟨(wf.a x hx).on, (wf.a x hx).c0⟩, fun x hx => by have := (wf.a x hx).l1; have := wf.m1; omega, fun x hx => by have := (wf.a x hx).c1; have := wf.m1; omega, fun x hx => (wf.a x hx).l0⟩
  have hcases : (c.al = [] ∧ a = none ∧ cap = 0) ∨ ∃ ad, a = some ad ∧ ∀ j u, (c.al.flatMap Alm.enc)[j]? = some u → w.cell? (ad.add j) = some u := by
    rcases a with _ | ad
    · rcases hx.2.1 with h1 | h1
      · exact .inl ⟨h1, rfl, hx.2.2.2.2 rfl⟩
      · exact absurd h1.1 (by simp)
    · refine .inr ⟨ad, rfl, fun j u hj => ?_⟩
      rcases hx.2.1 with h1 | ⟨h1, h2, h3⟩
      · rw [h1] at hj; simp at hj
      · injection h1 with h1
        subst h1
        rw [show (⟨q, 0, none⟩ : Addr).add j = ⟨q, j, none⟩ by unfold Addr.add; split <;> simp_all]
        exact h2.cell (by rw [List.getElem?_append_left (List.getElem?_eq_some_iff.1 hj).1]; exact hj)
  have hM6 : M ≤ 65536 := by omega
  have HM := Lib.hid hM; clear hM
  clear hx wf
  rcases Int.lt_or_le 65536 most with hmo | hmo
  all_goals
    go_enter Try.func118, Try.ntmps118
    go_upto_region 3 with (fail)
    go_cut [1, 5] (fun mv v wr => mv = .int .i64 M ∧ ∃ g ca ccap ctail, v = .slice ca c.al.length ccap ∧ w.heap.size ≤ g ∧ AtX wr g ca ccap ctail c.al ∧ Kept [] w wr)
    case first =>
      rcases hcases with ⟨h1, rfl, rfl⟩ | ⟨ad, rfl, hsrc⟩
      · go_wp2_with (at_builtin; refine wpList_append_own_none rfl (.const (.slice none 0 0)) (.tmp 14) 71 rfl w.heap.size 212 i0 3 Try.underlying71 hi _ 0 [] rfl (World.ownsRow_nil _ _ _ _) rfl ?_)
        go_meet
        refine ⟨by congr 1; have := HM.out; omega, w.heap.size, none, 0, [], by rw [h1]; rfl, Nat.le_refl _, ⟨.inl h1, by rw [h1]; exact Nat.le_refl _, by omega⟩, Kept.refl _ _⟩
      · go_wp2_with (at_builtin; go_loud (refine wpList_append_own _ rfl (.const (.slice none 0 0)) (.tmp 14) 71 rfl w.heap.size 212 i0 _ 3 24 Try.underlying71 hi hz0 hz1 hz2 rfl (by decide) _ 0 [] rfl (World.ownsRow_nil _ _ _ _) ad c.al.length cap (c.al.flatMap Alm.enc) rfl hl hsrc hone (by unfold maxLen; omega) (by omega) (by simp) ?_); intro v' w1 hO hg hnn; rw [Nat.zero_add, List.nil_append] at hO)
        go_meet
        obtain ⟨g, ca, ccap, ctail, h1, h2, h3⟩ := at_of_owns hO
        refine ⟨by congr 1; have := HM.out; omega, g, ca, ccap, ctail, h1, h2, h3, (Kept.refl [] w).grown hg (fun k hk => by cases hk)⟩
    case rest =>
      obtain ⟨rfl, g, ca, ccap, ctail, rfl, hg, hA, hK⟩ := hcut
      have hN : c.al.length ≤ 64 := hn
      have hst : RCom w g ca ccap c.al.length ctail M.toNat fin (M.toNat + 1) (.slice none 0 0) wc := ⟨c.al, [], by simp, by simp, hfin, hB, rfl, hA, World.ownsRow_nil _ _ _ _, hK⟩
      clear hA hK hB hfin hone hl hcases c6 hn
      generalize c.al.length = N at *
      have HST := Lib.hid hst; clear hst
      go_wp2_with (fail)
      go_loopg [6, 7, 8] (M.toNat + 1) (fun f v _ _ wr => RCom w g ca ccap N ctail M.toNat fin f v wr)
      case atStart => exact HST.out
      case round =>
        obtain ⟨al, acc, hf, ham, hgo, hAB, hal, hA, hO, hK⟩ := hrel
        clear HST
        obtain ⟨sa, scap, rfl, hs1, hs2⟩ := owns_slice hO
        have hs3 : scap ≤ 9223372036854775807 := by unfold maxLen at hs2; exact hs2
        have hcc := hA.2
        rw [hal] at hcc
        obtain ⟨hcc1, hcc2⟩ := hcc
        by_cases hlm : acc.length < M.toNat
        · have hlm' : (acc.length : Int) < M := by omega
          obtain ⟨f, rfl⟩ : ∃ f, gk = f + 1 := ⟨gk - 1, by omega⟩
          rw [refGo, if_pos hlm, hal] at hgo
          have hspec := fun i hi => leastTo_spec al i hi
          rw [hal] at hspec
          have HGO := Lib.hid hgo; clear hgo
          have HAL := Lib.hid hal; clear hal
          have HO := Lib.hid hO; clear hO
          have HK := Lib.hid hK; clear hK
          have HA := Lib.hid hA; clear hA
          have HAB := Lib.hid hAB; clear hAB
          go_wp2_with (fail)
          go_loopw [7, 8] (fun kv iv wx => ∃ i : Nat, i ≤ N ∧ iv = .int .i64 i ∧ kv = .int .i64 (leastTo al i) ∧ ∃ nd, wx = wr.drewN nd) (fun _ iv _ => N - (intOf iv).toNat)
          case atStart => exact ⟨0, Nat.zero_le _, rfl, rfl, 0, rfl⟩
          case round =>
            obtain ⟨i, hi, rfl, rfl, nd, rfl⟩ := hrel
            by_cases hlt : i < N
            · have hil : i < al.length := by have := HAL.out; omega
              have hget : al[i]? = some al[i] := List.getElem?_eq_getElem hil
              have hls : leastTo al (i + 1) = bif al[i].set && (decide (leastTo al i < 0) || decide (al[i].left < (al[(leastTo al i).toNat]?.getD Alm.zero).left)) then (i : Int) else leastTo al i := by
                rw [leastTo]
                simp only [hget, Option.getD_some]
              obtain ⟨hca, hrow⟩ := HA.out.on hil
              subst hca
              have a0 := HA.out.a0 hget
              have a1 := HA.out.a1 hget
              have hgw := hrow.lt
              have hsp := hspec i hi
              have hx3 := HAB.out.lo _ (List.mem_of_getElem? hget)
              have hget2 := fun k (x : Alm) (h : al[k]? = some x) => HA.out.a1 h
              clear hget hrow
              generalize al[i] = x at *
              obtain ⟨s, l, y⟩ := x
              dsimp only at a0 a1 hls hx3
              have HSP := Lib.hid hsp; clear hsp
              have HG2 := Lib.hid hget2; clear hget2
              cases s with
              | false =>
                have hls : leastTo al (i + 1) = leastTo al i := by rw [hls]; rfl
                generalize leastTo al i = kk at *
                clear hspec
                go_wp2_with (first | go_quiet (fail))
                go_roundw
                case rel => exact ⟨i + 1, by omega, by go_num, by rw [hls], _, rfl⟩
                case measure => simp [intOf]; omega
              | true =>
                simp only [Bool.true_and] at hls
                clear hspec
                rcases HSP.out with ⟨h1, _⟩ | ⟨k, h1, h2, h3, _⟩
                · rw [h1] at hls ⊢
                  have hls : leastTo al (i + 1) = i := by rw [hls]; rfl
                  go_wp2_with (first | go_quiet (fail))
                  go_roundw
                  case rel => exact ⟨i + 1, by omega, by go_num, by rw [hls], _, rfl⟩
                  case measure => simp [intOf]; omega
                · rw [h1] at hls ⊢
                  have hkl : k < al.length := by omega
                  have hkn : ¬ ((k : Int) < 0) := by omega
                  have hk0 : (0 : Int) ≤ k := by omega
                  rw [Int.toNat_natCast, List.getElem?_eq_getElem hkl, Option.getD_some] at hls
                  have b1 := HG2.out k _ (List.getElem?_eq_getElem hkl)
                  generalize al[k] = z at *
                  obtain ⟨zs, zl, zy⟩ := z
                  dsimp only at b1 hls
                  rcases Int.lt_or_le l zl with hz | hz
                  · have hls : leastTo al (i + 1) = i := by rw [hls]; simp [hz]
                    go_wp2_with (first | go_quiet (fail))
                    go_roundw
                    case rel => exact ⟨i + 1, by omega, by go_num, by rw [hls], _, rfl⟩
                    case measure => simp [intOf]; omega
                  · have hls : leastTo al (i + 1) = k := by
                      have : ¬ l < zl := by omega
                      rw [hls]
                      simp [this, hkn]
                    go_wp2_with (first | go_quiet (fail))
                    go_roundw
                    case rel => exact ⟨i + 1, by omega, by go_num, by rw [hls], _, rfl⟩
                    case measure => simp [intOf]; omega
            · obtain rfl : i = N := by omega
              rcases hspec i (Nat.le_refl _) with ⟨h1, _⟩ | ⟨k, h1, h2, h3, _⟩
              · have hfa : acc = fin := by
                  have := HGO.out
                  rwa [h1, if_pos (by omega)] at this
                rw [h1]
                have hend : (wr.drewN nd).ownsRow w.heap.size 41 2 (.slice sa acc.length scap) fin.length (fin.flatMap encE) ∧ Kept [] w (wr.drewN nd) := by
                  rw [← hfa]
                  exact ⟨HO.out, HK.out.trans (Kept.mk rfl rfl rfl (Nat.le_refl _) (fun _ _ _ => rfl))⟩
                clear hspec
                go_wp2_with fail
                go_ret
                exact ⟨_, rfl, hend⟩
              · have hkl : k < al.length := by have := HAL.out; omega
                have hget : al[k]? = some al[k] := List.getElem?_eq_getElem hkl
                have hgo := HGO.out
                rw [h1, if_neg (by omega), Int.toNat_natCast, hget, Option.getD_some] at hgo
                rw [hget, Option.getD_some] at h3
                have hk0 : (0 : Int) ≤ k := by omega
                obtain ⟨hca, hrow⟩ := HA.out.on hkl
                subst hca
                have hO : (wr.drewN nd).ownsRow w.heap.size 41 2 (.slice sa acc.length scap) acc.length (acc.flatMap encE) := HO.out
                have hrow : Row (wr.drewN nd) g 212 (al.flatMap Alm.enc ++ ctail) := hrow
                have hKn : Kept [] w (wr.drewN nd) := HK.out.trans (Kept.mk rfl rfl rfl (Nat.le_refl _) (fun _ _ _ => rfl))
                have hne := owns_ne hO hrow (by decide)
                have hAn := HAB.out.next hget h3
                have hm := List.mem_of_getElem? hget
                have b1 := HA.out.a1 hget
                have x0 := HAB.out.lo _ hm
                have x1 := HAB.out.hi _ hm
                have x2 := (HAB.out.ok _ hm).c0
                have x3 := HAB.out.cy _ hm
                have hgw : g < wr.heap.size := hrow.lt
                have hws := HK.out.size
                rw [h1]
                generalize al[k] = x at *
                obtain ⟨s, l, y⟩ := x
                dsimp only at b1 x0 x1 x2 x3 h3 hgo
                have x4 : l ≤ 140741783322624 := by omega
                clear x1
                have HGO2 := Lib.hid hgo
                have HGE := Lib.hid hget
                have HAN := Lib.hid hAn
                have h65 : acc.length + 1 ≤ 65536 := by omega
                have hnew : Row ((wr.drewN nd).alloc (.cells #[.int .u64 l, .int .i64 k] 41)) wr.heap.size 41 [.int .u64 l, .int .i64 k] := Row.new' rfl
                have hcells : ∀ j u, [Value.int .u64 l, .int .i64 k][j]? = some u → ((wr.drewN nd).alloc (.cells #[.int .u64 l, .int .i64 k] 41)).cell? ((⟨wr.heap.size, 0, none⟩ : Addr).add j) = some u := fun j u h => by
                  rw [Addr.add_mid, Nat.zero_add]
                  exact hnew.cell h
                clear hspec hgo hget hAn hm hnew
                go_wp2_with (at_builtin; go_loud (refine wpList_append_own _ rfl (.tmp 52) (.tmp 60) 37 rfl w.heap.size 41 j0 _ 2 16 Try.underlying37 hj hj0 hj1 hj2 rfl (by decide) _ _ _ rfl (hO.alloc _) ⟨wr.heap.size, 0, none⟩ 1 1 [.int .u64 l, .int .i64 k] rfl rfl hcells (by simp [Value.oneCell']) (by unfold maxLen; omega) (by omega) (by simp; omega) ?_); intro v' w1 hown' hgrow hnn; have hR1 := ((hrow.alloc (.cells #[.int .u64 l, .int .i64 k] 41)).grown hgrow (Ne.symm hne)); have hA1 : AtX w1 g (some ⟨g, 0, none⟩) ccap ctail al := ⟨.inr ⟨rfl, hR1⟩, HA.out.2⟩; have hK1 := (hKn.alloc (.cells #[.int .u64 l, .int .i64 k] 41)).grown hgrow (fun j hj => .inr (hO.lt j hj).1); have c0 := hA1.a0 HGE.out; have c1 := hA1.a1 HGE.out; have c2 := hA1.a2 HGE.out; have k0 := hR1.free (k * 3); have k1 := hR1.free (k * 3 + 1); have k2 := hR1.free (k * 3 + 2); dsimp only at c0 c1 c2)
                refine still_tail 14 (by kernel_rfl) (by kernel_rfl) ?_
                simp only [List.take_succ_cons, List.take_zero, List.drop_succ_cons, List.drop_zero]
                repeat still_step
                refine wpStill_nil ?_
                go_wp2
                go_roundg f
                case measure => omega
                case rel =>
                  have hn1 := owns_ne hown' hR1 (by decide)
                  have hA2 := (hA1.setA HGE.out ⟨decide (0 < y), l, y⟩ 0 (.bool (decide (0 < y))) (by omega) rfl)
                  have hg2 : (al.set k ⟨decide (0 < y), l, y⟩)[k]? = some ⟨decide (0 < y), l, y⟩ := by simp [hkl]
                  have hA3 := hA2.setA hg2 ⟨decide (0 < y), l + y, y⟩ 1 (.int .u64 (l + y)) (by omega) rfl
                  rw [List.set_set] at hA3
                  have hO2 := ownsRow_setCell_other (a := ⟨g, k * 3 + 1, none⟩) (ownsRow_setCell_other (a := ⟨g, k * 3, none⟩) hown' hn1 (.bool (decide (0 < y)))) hn1 (.int .u64 (l + y))
                  refine ⟨al.set k ⟨decide (0 < y), l + y, y⟩, acc ++ [(l, k)], by simp; omega, by simp; omega, HGO2.out, ?_, by simpa using HAL.out, hA3.kept (Kept.refl [] _).drew (by simp), ?_, ((hK1.setCell (.inr hg) _).setCell (.inr hg) _).drew⟩
                  · have := HAN.out
                    simpa [Alm.again] using this
                  · simpa [encE] using hO2.drew
        · have hlm' : M ≤ (acc.length : Int) := by omega
          have hfa : acc = fin := by
            cases gk with
            | zero => simpa [refGo] using hgo
            | succ f => simpa [refGo, hlm] using hgo
          subst hfa
          clear hgo hA
          go_wp2
          go_ret
          exact ⟨_, rfl, hO, hK⟩

end Go.Proofs.Ytopgfhcgfpceaaa
