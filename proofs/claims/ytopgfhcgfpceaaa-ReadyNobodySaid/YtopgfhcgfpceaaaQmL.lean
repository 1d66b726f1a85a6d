/- The walk of package ready: All, and the iterator that it answers: what it gathers first. -/
import Derived.Test.YtopgfhcgfpceaaaQd
import Derived.Test.YtopgfhcgfpceaaaQmK
import Derived.Test.YtopgfhcgfpceaaaRfA
namespace Go.Proofs.Ytopgfhcgfpceaaa
open Go.RowKit Go.Shelf

variable {m : Bool}

attribute [local go_sem] Oper.semAt_some

theorem q_All (w : World) (a : Option Addr) : Calls Try.prog 29 #[.pointer a] w fun e w' => e = .returned (.func (.func 103) #[] #[.pointer (some ⟨w.heap.size, 0, none⟩)]) ∧ w' = w.alloc (.cells #[.pointer a] 47) := by
  go_enter Try.func29, Try.ntmps29
  go_wp2
  go_ret
  exact ⟨rfl, rfl⟩

theorem q_info : (Try.prog.info? 61).map (fun i => (i.zero, i.size, i.bytes)) = some (some (.agg #[.int .i64 0, .int .i64 0]), 2, 16) := by kernel_rfl

/-- A queue's things as they stand in a slice. -/
def qEnc (x : Int × Int) : List Value := [.int .i64 x.1, .int .i64 x.2]
theorem qEnc_length (x : Int × Int) : (qEnc x).length = 2 := rfl

theorem ring_iter_any {w : World} {b : Nat} {pp qq : Nat → Nat} {qs : List QR} {bits : Nat} (h : QAtB m w b pp qq qs bits) (p : Int) (n : Nat) (hn : 1 ≤ n) (Bn : Nat) (X : Nat → Prop) (bx : Nat) (hX : ∀ k, X k → k < w.heap.size) (hbx : ∀ k, boxRow w bx = some k → k < w.heap.size) (hbl : bx < w.heap.size)
    (hBn : w.cell? ⟨Bn, 0, none⟩ = some (.pointer (qptr pp qs p))) :
    IterO Try.prog n 199 #[.pointer (some ⟨Bn, 0, none⟩)] (fun x : Int => #[Value.int .i64 x]) (KpX X bx) (qring qs p) w := by
  unfold qptr at hBn
  unfold qring
  cases hf : qfind qs p with
  | none =>
    rw [hf] at hBn
    exact rgk_iter_nil n hn Bn X bx w hBn
  | some i =>
    obtain ⟨r, h1, _⟩ := qfind_some hf
    rw [hf] at hBn
    obtain ⟨g, h3, h4, h5, h6, h7⟩ := h.ring i r h1
    have := rgk_iter n hn Bn X bx _ _ g w h3 hX hbx hbl hBn
    rw [h5] at this
    simp only [h1]
    exact this

/-- What the gathering has come to behind k priorities, W0 being the world of the call. -/
structure Gath (W0 : World) (qs : List QR) (k : Nat) (Ds : List Nat) (Bp : Nat) (W : World) : Prop where
  kept : Kept [] W0 W
  coll : Coll W0.heap.size W0.heap.size 55 61 2 qEnc (qdown qs k) W
  box : Boxed W Bp 3 (.int .i64 (63 - (k : Int)))
  bp : W0.heap.size < Bp
  nd : Ds.Nodup
  ds : ∀ D ∈ Ds, W0.heap.size ≤ D ∧ W.heap[D]? = some (Obj.deferred (some []))

/-- What the gathering wants of a queue: its rings' pointers, and the iterators over them. -/
structure QSrc (W0 : World) (a0 : Option Addr) (ptr : Int → Option Addr) (qs : List QR) : Prop where
  wf : QWf qs
  at_ : ∀ W p, Kept [] W0 W → Calls Try.prog 104 #[.pointer a0, .int .i64 p] W fun e w' => e = .returned (.pointer (ptr p)) ∧ W = w'
  it : ∀ (W : World) (p : Int) (n Bn : Nat) (X : Nat → Prop) (bx : Nat), Kept [] W0 W → 1 ≤ n → (∀ k, X k → k < W.heap.size) → (∀ k, boxRow W bx = some k → k < W.heap.size) → bx < W.heap.size → W.cell? ⟨Bn, 0, none⟩ = some (.pointer (ptr p)) →
    IterO Try.prog n 199 #[.pointer (some ⟨Bn, 0, none⟩)] (fun x : Int => #[Value.int .i64 x]) (KpX X bx) (qring qs p) W

theorem QAtB.src {w : World} {b : Nat} {pp qq : Nat → Nat} {qs : List QR} {bits : Nat} (h : QAtB m w b pp qq qs bits) : QSrc w (some ⟨b, 0, none⟩) (qptr pp qs) qs :=
  ⟨h.wf, fun W p hk => q_at W b pp qq qs bits p (h.kept hk (by simp)), fun _ p n Bn X bx hk hn hX hbx hbl hBn => ring_iter_any (h.kept hk (by simp)) p n hn Bn X bx hX hbx hbl hBn⟩

theorem QSrc.nil (w : World) : QSrc w none (fun _ => none) [] :=
  ⟨⟨by simp, by simp⟩, fun W p _ => q_at_nil W p, fun W p n Bn X bx _ hn _ _ _ hBn => rgk_iter_nil n hn Bn X bx W hBn⟩

theorem QSrc.kept {w w' : World} {a0 : Option Addr} {ptr : Int → Option Addr} {qs : List QR} (h : QSrc w a0 ptr qs) (hk : Kept [] w w') : QSrc w' a0 ptr qs :=
  ⟨h.wf, fun W p hk2 => h.at_ W p (hk.trans hk2), fun W p n Bn X bx hk2 => h.it W p n Bn X bx (hk.trans hk2)⟩

/-- How far the gathering is, read off the world. -/
def gMu (a : Act) (W : World) : Nat := match a.tmps.getD 4 undef with
  | .pointer (some ad) => (match W.cell? ad with
    | some (.int _ v) => (v + 1).toNat
    | _ => 0)
  | _ => 0

/-- Where the things lie that the iterator hands out. -/
def ListQ (X : Nat → Prop) (bx : Nat) (sa : Option Addr) (xs : List (Int × Int)) (w : World) : Prop :=
  xs = [] ∨ ∃ g tail, sa = some ⟨g, 0, none⟩ ∧ Row w g 61 (xs.flatMap qEnc ++ tail) ∧ ¬ X g ∧ boxRow w bx ≠ some g

/-- Between two rounds of the gathering. -/
def GI (W0 : World) (qs : List QR) (l Bn : Nat) (a : Act) (W : World) : Prop :=
  ∃ (k : Nat) (Ds : List Nat) (Bp : Nat) (u8 u9 u10 u11 u12 u13 u14 u15 u23 : Value), k ≤ 64 ∧ Gath W0 qs k Ds Bp W ∧
    a = ⟨#[.func (.yield l) #[] #[], .pointer (some ⟨Bn, 0, none⟩), undef, .pointer (some ⟨W0.heap.size, 0, none⟩), .pointer (some ⟨Bp, 0, none⟩), undef, undef, undef, u8, u9, u10, u11, u12, u13, u14, u15, undef, undef, undef, undef, undef, undef, undef, u23, undef, undef, undef, undef, undef, undef, undef, undef, undef, undef, undef], marks Ds⟩

theorem news_two (W : World) (T : TypeId) (a b : Value) : ∀ j u, [a, b][j]? = some u → (W.alloc (.cells #[a, b] T)).cell? ((⟨W.heap.size, 0, none⟩ : Addr).add j) = some u := by
  intro j u hj
  rw [addr_add, Nat.zero_add]
  exact (Row.new' (cs := [a, b]) rfl).cell hj

theorem Books.kpd {l : Nat} {w w' : World} {X : Nat → Prop} {bx : Nat} (h : Books l w w') (hb : ∃ v, w.cell? ⟨bx, 0, none⟩ = some v) : KpD X bx w w' := by
  refine KpD.books ⟨⟨Nat.le_refl _, fun k o _ hk _ _ => hk, fun k hk => .inl hk⟩, fun k ds hk => hk, hb⟩ h

set_option maxRecDepth 100000 in
set_option maxHeartbeats 4000000 in
theorem q_All1 (n : Nat) (hn : 5 ≤ n) (l Bn : Nat) (a0 : Option Addr) (ptr : Int → Option Addr) (qs : List QR) (W0 : World) (h : QSrc W0 a0 ptr qs) (hBn : W0.cell? ⟨Bn, 0, none⟩ = some (.pointer a0)) (X : Nat → Prop) (bx : Nat)
    (hX : ∀ k, X k → k < W0.heap.size) (hbx : ∀ k, boxRow W0 bx = some k → k < W0.heap.size) (hbl : bx < W0.heap.size) (J Jx : Nat → World → Prop) (hJ : ∀ k A B, J k A → Iters W0.heap.size A B → J k B) (hJx : ∀ k A B, Jx k A → Iters W0.heap.size A B → Jx k B)
    (hY : ∀ k x W1, (qall qs)[k]? = some x → J k W1 → YieldAt Fence.wide (n - 1) Try.prog l #[.agg #[.int .i64 x.1, .int .i64 x.2]] W1 fun e W' => (e = .returned (.bool true) ∧ J (k + 1) W' ∧ KpD X bx W1 W') ∨ (e = .returned (.bool false) ∧ Jx (k + 1) W' ∧ KpD X bx W1 W')) (h0 : J 0 W0) :
    CallsIn Fence.wide n Try.prog 103 #[.func (.yield l) #[] #[], .pointer (some ⟨Bn, 0, none⟩)] W0 (IterK (qall qs).length J Jx) := by
  obtain ⟨i0, hi, hz0, hz1, hz2⟩ := info_parts q_info
  have hf1 : Fence.wide.fn 104 := trivial
  have hf2 : Fence.wide.fn 105 := trivial
  have hw0 : Fence.wide.depth.isSome = false := rfl
  refine callsIn_of_wp_marks Try.func103 rfl trivial ?_ rfl
  simp only [Try.ntmps103, List.size_toArray, List.length_cons, List.length_nil, Nat.reduceAdd, Nat.reduceSub, Array.replicate_succ, Array.replicate_zero, List.push_toArray, List.append_toArray, List.nil_append, List.cons_append]
  have hst : Gath W0 qs 0 [] (W0.heap.size + 1) ((W0.alloc (.cells #[.slice none 0 0] 55)).alloc (.cells #[.int .i64 63] 3)) := by
    have b1 := Boxed.new W0 55 (.slice none 0 0)
    have b2 := Boxed.new (W0.alloc (.cells #[.slice none 0 0] 55)) 3 (.int .i64 63)
    rw [World.size_alloc] at b2
    exact ⟨((Kept.refl _ _).alloc _).alloc _, ⟨_, b1.alloc _, World.ownsRow_nil _ _ _ _⟩, b2, by omega, List.nodup_nil, fun D hD => by simp at hD⟩
  gi_wp2
  refine wpIn_loop (GI W0 qs l Bn) gMu ⟨0, [], _, _, _, _, _, _, _, _, _, _, by omega, hst, rfl⟩ ?_
  clear hst
  rintro a W ⟨k, Ds, Bp, u8, u9, u10, u11, u12, u13, u14, u15, u23, hk, hG, rfl⟩
  have hc4 := hG.box.cell
  have hcB := hG.kept.cell hBn (by simp)
  have HcW := Lib.hid hc4
  by_cases hlt : k < 64
  · have hkI : (k : Int) < 64 := by omega
    have ha := h.at_ W (63 - (k : Int)) hG.kept
    have k1 : Kept [] W (W.alloc (.cells #[.pointer (ptr (63 - (k : Int)))] 90)) := (Kept.refl _ _).alloc _
    gi_wp2_with (first | (gi_at_call 104; refine (callsIn_wide.2 ha).mono ?_; rintro e w' ⟨rfl, rfl⟩) | (gi_at_call 105; refine (callsIn_wide.2 (rg_All _ _)).mono ?_; rintro e w' ⟨rfl, rfl⟩))
    have hKV : Kept [] W0 (W.alloc (.cells #[.pointer (ptr (63 - (k : Int)))] 90)) := hG.kept.trans k1
    obtain ⟨vL, bL, oL⟩ := hG.coll
    have bL2 := bL.alloc (.cells #[.pointer (ptr (63 - (k : Int)))] 90)
    have hbl0 : W0.heap.size < W.heap.size := bL.lt
    have hiter := (h.it _ (63 - (k : Int)) (n - 1) W.heap.size (fun j => j = W0.heap.size) W0.heap.size hKV (by omega) (by rintro j rfl; simp; omega) (fun j hj => by
      rw [boxRow_box bL2] at hj
      have := owns_block_lt (oL.alloc (.cells #[.pointer (ptr (63 - (k : Int)))] 90)) hj
      exact this) (by simp; omega) (Row.cell (i := 0) (Row.new' (cs := [.pointer (ptr (63 - (k : Int)))]) rfl) rfl)).weaken (K' := KpD (fun j => j = W0.heap.size) W0.heap.size) (fun _ _ hh => hh.k)
    have hdl := qdown_len h.wf k hk
    have hdl2 := qring_len h.wf (63 - (k : Int))
    have hds := qdown_succ qs k
    obtain ⟨xs, hxs⟩ : ∃ xs, xs = qring qs (63 - (k : Int)) := ⟨_, rfl⟩
    rw [← hxs] at hiter hdl2 hds
    have hsV : (W.alloc (.cells #[.pointer (ptr (63 - (k : Int)))] 90)).heap.size = W.heap.size + 1 := by simp
    refine range_law (n := n) (by omega) (gf := 199) (lb := #[.pointer (some ⟨W.heap.size, 0, none⟩)]) rfl (enters_of Try.func199 (by kernel_rfl) rfl) hiter (fun _ => rfl) (fun l A C D _ h1 h2 => h1.books h2)
      (fun j V => Kept [] W0 V ∧ Coll W0.heap.size W0.heap.size 55 61 2 qEnc (qdown qs k ++ (xs.take j).map fun x => (63 - (k : Int), x)) V ∧ Boxed V Bp 3 (.int .i64 (63 - (k : Int))) ∧ ∀ D ∈ Ds, V.heap[D]? = some (Obj.deferred (some [])))
      (fun _ _ _ => False) ?stab (fun _ _ _ _ h1 _ => h1) ?start ?round ?done ?stop
    case stab =>
      rintro j A B ⟨h1, ⟨v, h2, h3⟩, h4, h5⟩ hi
      rw [hsV] at hi
      refine ⟨h1.iters hi (by omega), ⟨v, hi.boxed h2, hi.owns h3⟩, hi.boxed h4, fun D hD => ?_⟩
      have := hG.ds D hD
      exact hi.keep D _ (h5 D hD) (.inl (by have := (Array.getElem?_eq_some_iff.1 this.2).1; omega))
    case start =>
      refine ⟨hKV, ⟨vL, bL2, by simpa using oL.alloc _⟩, hG.box.alloc _, fun D hD => ?_⟩
      have := (hG.ds D hD).2
      exact (Below.heap_alloc _ _ _ (Array.getElem?_eq_some_iff.1 this).1).trans this
    case stop =>
      intro D j c V _ _ _ hh _
      exact hh.elim
    case round =>
      rintro l2 j x V hl2 hx ⟨hKV2, ⟨v, hv, hrow⟩, hbp, hdf⟩
      have hjl := (List.getElem?_eq_some_iff.1 hx).1
      rw [hsV] at hl2
      have hts : qdown qs k ++ (xs.take (j + 1)).map (fun x => (63 - (k : Int), x)) = (qdown qs k ++ (xs.take j).map fun x => (63 - (k : Int), x)) ++ [(63 - (k : Int), x)] := by
        rw [List.take_add_one, hx, List.map_append, ← List.append_assoc]
        rfl
      have hLl : (qdown qs k ++ (xs.take j).map fun x => (63 - (k : Int), x)).length ≤ 4325376 := by
        rw [List.length_append, List.length_map, List.length_take]
        omega
      have HTS := Lib.hid hts
      generalize (qdown qs k ++ (xs.take j).map fun x => (63 - (k : Int), x)) = L at *
      clear hts hds hiter ha hdl hdl2 hKV bL bL2 oL k1 hcB hc4
      gi_wp2
      refine ⟨KeepsFrom.refl _ _, fun w2 hb => ?_⟩
      have hit := hb.iters (B := W0.heap.size) (by omega)
      have hKw := hKV2.iters hit (Nat.le_refl _)
      have hv2 := hit.boxed hv
      have hrow2 := hit.owns hrow
      have hbp2 := hit.boxed hbp
      have hc3 := hv2.cell
      have hc4 := hbp2.cell
      have hws := hKw.size
      have hgot := hG.bp
      have fin : ∀ v' w1, w1.ownsRow W0.heap.size 61 2 v' (L.length + 1) (L.flatMap qEnc ++ qEnc (63 - (k : Int), x)) → (w2.alloc (.cells #[.int .i64 (63 - (k : Int)), .int .i64 x] 61)).grownBy w1 v.ownBlock → (v'.ownBlock = v.ownBlock ∨ v'.ownBlock = some (w2.alloc (.cells #[.int .i64 (63 - (k : Int)), .int .i64 x] 61)).heap.size) →
          (KeepsFrom (W.heap.size + 1) w2 (w1.setCell ⟨W0.heap.size, 0, none⟩ v') ∧ KpD (fun j => j = W0.heap.size) W0.heap.size V (w1.setCell ⟨W0.heap.size, 0, none⟩ v') ∧ Kept [] W0 (w1.setCell ⟨W0.heap.size, 0, none⟩ v') ∧ Coll W0.heap.size W0.heap.size 55 61 2 qEnc (qdown qs k ++ (xs.take (j + 1)).map fun x => (63 - (k : Int), x)) (w1.setCell ⟨W0.heap.size, 0, none⟩ v') ∧ Boxed (w1.setCell ⟨W0.heap.size, 0, none⟩ v') Bp 3 (.int .i64 (63 - (k : Int))) ∧ ∀ D ∈ Ds, (w1.setCell ⟨W0.heap.size, 0, none⟩ v').heap[D]? = some (Obj.deferred (some []))) ∧ w1.cell? ⟨W0.heap.size, 0, none⟩ = some v ∧ w1.frozen? ⟨W0.heap.size, 0, none⟩ = false := by
        intro v' w1 hown' hgrow hat
        have hp := Coll.put (enc := qEnc) (x := (63 - (k : Int), x)) hv2 (by decide) hrow2 hws (Nat.le_refl _) hown' hgrow hat (fun j => j = W0.heap.size) rfl
        obtain ⟨hv1, hv3, _⟩ := hv2.appended (by decide) hrow2 hws (Nat.le_refl _) hown' hgrow
        refine ⟨⟨hp.1.from _, (hb.kpd ⟨_, hv.cell⟩).trans ⟨hp.2.1, fun i ds hi2 => hp.1.same i _ hi2 rfl, _, hv3.cell⟩, Kept.of_below (hKw.below.trans hp.2.2.2) _, by rw [HTS.out]; exact hp.2.2.1, ?_, fun D hD => ?_⟩, hv1.cell, hv1.frozen⟩
        · refine hp.2.1.same Bp _ (by show Bp ≠ _; omega) hbp2 rfl ?_
          rw [boxRow_box hv2]
          exact fun e => hbp2.not_row (by decide) hrow2 e.symm
        · exact hp.1.same D _ (hb.other (hdf D hD) (by simp)) rfl
      clear hb hit hKw hv2 hbp2 hv hbp hdf hG h hKV2
      gi_wp2_with (gi_at_builtin; go_loud (refine wpListIn_append_own_at _ rfl (.tmp 17) (.tmp 21) 55 rfl W0.heap.size 61 i0 (.agg #[.int .i64 0, .int .i64 0]) 2 16 Try.underlying55 hi hz0 hz1 hz2 rfl (by decide) _ _ _ rfl (hrow2.alloc _) ⟨w2.heap.size, 0, none⟩ 1 1 [.int .i64 (63 - (k : Int)), .int .i64 x] rfl rfl (news_two _ _ _ _) (by simp [Value.oneCell']) (by unfold maxLen; omega) (by omega) (by simp; omega) ?_; intro v' w1 hown' hgrow hnil hat; obtain ⟨g', cap', rfl⟩ := ownsRow_succ hown'; have hp := fin _ w1 hown' hgrow hat; have hc1 := hp.2.1; have hf1 := hp.2.2; have HP := Lib.hid hp.1; clear hown' hgrow hnil hat hp))
      exact ⟨by rw [hsV]; exact HP.out.1, HP.out.2⟩
    case done =>
      rintro D V hD ⟨hKV2, ⟨v, hv, hrow⟩, hbp, hdf⟩ hDd
      rw [hsV] at hD
      rw [List.take_length, ← hds] at hrow
      have hc4 := hbp.cell
      have hnb := Boxed.new V 3 (.int .i64 (63 - ((k + 1 : Nat) : Int)))
      have hG2 : Gath W0 qs (k + 1) (D :: Ds) V.heap.size (V.alloc (.cells #[.int .i64 (63 - ((k + 1 : Nat) : Int))] 3)) := by
        refine ⟨hKV2.alloc _, ⟨v, hv.alloc _, hrow.alloc _⟩, hnb, hv.lt, List.nodup_cons.2 ⟨fun hm => ?_, hG.nd⟩, fun E hE => ?_⟩
        · have := (Array.getElem?_eq_some_iff.1 (hG.ds D hm).2).1
          omega
        · rcases List.mem_cons.1 hE with rfl | hE
          · exact ⟨by omega, (Below.heap_alloc _ _ _ (Array.getElem?_eq_some_iff.1 hDd).1).trans hDd⟩
          · exact ⟨(hG.ds E hE).1, (Below.heap_alloc _ _ _ (Array.getElem?_eq_some_iff.1 (hdf E hE)).1).trans (hdf E hE)⟩
      have HG2 := Lib.hid hG2
      have HC := Lib.hid hnb.cell
      clear hG2 hnb hKV2 hv hrow hbp hdf hDd hG hiter hds ha bL bL2 oL hKV k1 h
      gi_wp2
      rw [show (63 : Int) - (k : Int) - 1 = 63 - ((k + 1 : Nat) : Int) by omega]
      refine ⟨⟨k + 1, D :: Ds, V.heap.size, _, _, _, _, _, _, _, _, _, by omega, HG2.out, rfl⟩, ?_⟩
      have m1 := HC.out
      have m2 := HcW.out
      generalize V.alloc (.cells #[.int .i64 (63 - ((k + 1 : Nat) : Int))] 3) = V2 at *
      simp [gMu, m2, m1]
      omega
  · obtain rfl : k = 64 := by omega
    have hJ1 : J 0 W := hJ _ _ _ h0 (Iters.of_kept hG.kept)
    obtain ⟨vL, bL, oL⟩ := hG.coll
    rw [qdown_all h.wf] at oL
    have hlen := qall_len qs h.wf.r
    have hql := h.wf.len
    obtain ⟨xs, hxs⟩ : ∃ xs, xs = qall qs := ⟨_, rfl⟩
    rw [← hxs] at oL hlen hY
    have HXS := Lib.hid hxs
    obtain ⟨sa, scap, rfl, hs1, hs2⟩ := owns_slice oL
    have hs3 : scap ≤ 9223372036854775807 := by unfold maxLen at hs2; exact hs2
    have hc3 := bL.cell
    have hL : ListQ X bx sa xs W := by
      rcases owns_row oL with ⟨_, h1, h2⟩ | ⟨g, cap', tail, h1, hb, hg, _⟩
      · exact .inl (List.eq_nil_of_length_eq_zero h1)
      · injection h1 with h1
        refine .inr ⟨g, tail, h1, hg, fun e => by have := hX g e; omega, fun e => ?_⟩
        rw [boxRow_of (hG.kept.block bx hbl (by simp))] at e
        have := hbx g e
        omega
    have hnd := hG.nd
    have hds := hG.ds
    have hsz0 := hG.kept.size
    have hlen2 : xs.length ≤ 4194304 := by omega
    have HND := Lib.hid hnd
    have hstable : ∀ j wr o, J j wr → J j (wr.alloc o) := fun j wr o hj => hJ _ _ _ hj (Iters.of_kept ((Kept.refl _ _).alloc _))
    clear hG bL oL hlen hql hxs hs2 h hX hbx hnd h0
    gi_wp2
    gi_loopw [26] (fun i wr => ∃ j : Nat, j ≤ xs.length ∧ i = .int .i64 j ∧ J j wr ∧ ListQ X bx sa xs wr ∧ W0.heap.size ≤ wr.heap.size ∧ ∀ D ∈ Ds, W0.heap.size ≤ D ∧ wr.heap[D]? = some (Obj.deferred (some []))) (fun i _ => xs.length - (intOf i).toNat)
    case atStart => exact ⟨0, Nat.zero_le _, rfl, hJ1, hL, hsz0, hds⟩
    case round =>
      clear hJ1 hL hds
      obtain ⟨j, hj, rfl, hJs, hLs, hsw, hDs⟩ := hrel
      by_cases hjl : j < xs.length
      · have hget := List.getElem?_eq_getElem hjl
        obtain ⟨g, tail, rfl, hg, _⟩ : ∃ g tail, sa = some ⟨g, 0, none⟩ ∧ Row wr g 61 (xs.flatMap qEnc ++ tail) ∧ True := by
          rcases hLs with h | ⟨g, tail, h1, h2, _⟩
          · rw [h] at hjl; simp at hjl
          · exact ⟨g, tail, h1, h2, trivial⟩
        have hfl : ∀ i, i < 2 → (xs.flatMap qEnc ++ tail)[j * 2 + i]? = (qEnc xs[j])[i]? := fun i hi => by
          have := flat_get qEnc_length xs j i _ hget hi
          rw [List.getElem?_append_left, this]
          rw [flat_length qEnc_length]
          omega
        have hcx : wr.cell? ⟨g, j * 2, none⟩ = some (.int .i64 xs[j].1) := hg.cell (hfl 0 (by omega))
        have hcy : wr.cell? ⟨g, j * 2 + 1, none⟩ = some (.int .i64 xs[j].2) := hg.cell (hfl 1 (by omega))
        have hJ2 := hstable j wr (.cells #[.int .i64 xs[j].1, .int .i64 xs[j].2] 61) hJs
        obtain ⟨fn, tmps, assign, body, hy, hR⟩ := hY j xs[j] _ hget hJ2
        have hL2 : ListQ X bx (some ⟨g, 0, none⟩) xs (wr.alloc (.cells #[.int .i64 xs[j].1, .int .i64 xs[j].2] 61)) := by
          rcases hLs with h | ⟨g', tail', h1, h2, h3, h4⟩
          · exact .inl h
          · refine .inr ⟨g', tail', h1, h2.alloc _, h3, fun e => h4 ?_⟩
            rw [boxRow_of (Below.heap_alloc _ _ _ (by omega))] at e
            exact e
        have hD2 : ∀ D ∈ Ds, W0.heap.size ≤ D ∧ (wr.alloc (.cells #[.int .i64 xs[j].1, .int .i64 xs[j].2] 61)).heap[D]? = some (Obj.deferred (some [])) := fun D hD => by
          have := hDs D hD
          exact ⟨this.1, (Below.heap_alloc _ _ _ (Array.getElem?_eq_some_iff.1 this.2).1).trans this.2⟩
        have HL := Lib.hid hL2
        have HD := Lib.hid hD2
        clear hLs hDs hL2 hD2 hJs hJ2 hY hstable hget hfl hg
        generalize xs[j] = x at *
        obtain ⟨x1, x2⟩ := x
        dsimp only at *
        gi_wp2
        refine hR.mono ?_
        rintro e W3 (⟨rfl, hJ3, hk3⟩ | ⟨rfl, hJx3, hk3⟩)
        · gi_wp2
          refine ⟨⟨j + 1, by omega, by go_num, hJ3, ?_, ?_, fun D hD => ?_⟩, by simp [intOf]; omega⟩
          · rcases HL.out with h | ⟨g', tail', h1, h2, h3, h4⟩
            · exact .inl h
            · have := hk3.k.row_cells h2 h3 h4
              exact .inr ⟨g', tail', h1, this.1, h3, this.2⟩
          · have := hk3.k.size
            simp at this
            omega
          · have := HD.out D hD
            exact ⟨this.1, hk3.d D _ this.2⟩
        · gi_wp2
          refine leaves_marks Ds W3 HND.out (fun D hD => ?_) (B := W0.heap.size) fun W' hi => ⟨_, results_none rfl _ _ _, ⟨_, rfl⟩, .inr ⟨j + 1, by omega, by rw [← HXS.out]; omega, hJx _ _ _ hJx3 hi⟩⟩
          have := HD.out D hD
          exact ⟨this.1, hk3.d D _ this.2⟩
      · obtain rfl : j = xs.length := by omega
        clear hY hstable hLs
        gi_wp2
        refine leaves_marks Ds _ HND.out hDs (B := W0.heap.size) fun W' hi => ⟨_, results_none rfl _ _ _, ⟨_, rfl⟩, .inl (by rw [← HXS.out]; exact hJ _ _ _ hJs hi)⟩

/-- The word of the iterator that a queue's All answers. -/
theorem q_iter (n : Nat) (hn : 5 ≤ n) (Bn : Nat) (a0 : Option Addr) (ptr : Int → Option Addr) (qs : List QR) (w : World) (h : QSrc w a0 ptr qs) (hBn : w.cell? ⟨Bn, 0, none⟩ = some (.pointer a0)) (X : Nat → Prop) (bx : Nat)
    (hX : ∀ k, X k → k < w.heap.size) (hbx : ∀ k, boxRow w bx = some k → k < w.heap.size) (hbl : bx < w.heap.size) :
    IterO Try.prog n 103 #[.pointer (some ⟨Bn, 0, none⟩)] (fun x : Int × Int => #[Value.agg #[.int .i64 x.1, .int .i64 x.2]]) (KpD X bx) (qall qs) w := fun l J Jx W hk hJ hJx hY h0 => by
  refine q_All1 n hn l Bn a0 ptr qs W (h.kept hk) (hk.cell hBn (by simp)) X bx (fun k hk2 => by have := hX k hk2; have := hk.size; omega) (fun k hk2 => ?_) (by have := hk.size; omega) J Jx hJ hJx hY h0
  rw [boxRow_of (hk.block bx hbl (by simp))] at hk2
  have := hbx k hk2
  have := hk.size
  omega
end Go.Proofs.Ytopgfhcgfpceaaa
