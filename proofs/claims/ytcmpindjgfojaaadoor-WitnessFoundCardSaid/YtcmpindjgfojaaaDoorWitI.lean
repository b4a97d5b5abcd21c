/- Walks: a drawing's Value and Deviants. -/
import Derived.Test.YtcmpindjgfojaaaDoorWitH
namespace Go.Proofs.YtcmpindjgfojaaaDoor
open Go.RowKit

attribute [local go_sem] Oper.semAt_some

variable {B : Nat} {w : World} {d pb lb cap : Nat} {D : Drw}
/-- What Value's loop computes. -/
def valF (below : Int) : Int → List Per → Int
  | n, [] => n
  | n, p :: r => valF below ((addFrom below 0 [n, p.value]).getD 0) r
theorem valF_app (below : Int) : ∀ (a b : List Per) (n : Int), valF below n (a ++ b) = valF below (valF below n a) b
  | [], b, n => rfl
  | p :: a, b, n => by simp only [List.cons_append, valF]; exact valF_app below a b _
def valR (D : Drw) : Int × Int := if overB D = false then (0, 9) else if devs D = [] then (valF D.below 0 D.pers, 0) else (0, 110)

theorem results_cells {fn : Func} {a b : Tmp} {t u : TypeId} (h : fn.results = #[.cell a t, .cell b u]) {tmps : Array Value} {P : Program} {w : World} {x y : Addr} {v v' : Value}
    (ha : tmps[a]?.getD undef = .pointer (some x)) (hb : tmps[b]?.getD undef = .pointer (some y)) (hx : (loadVar t x).run P w = .ok v w) (hy : (loadVar u y).run P w = .ok v' w) :
    (results fn tmps).run P w = .ok (.tuple #[v, v']) w := by
  simp [results, h, ha, hb, hx, hy, asAddr, Sem.run_bind, Result.andThen]
theorem load_int {w : World} {b : Nat} {i : Int} (h : w.cell? ⟨b, 0, none⟩ = some (.int .i64 i)) : (loadVar 3 ⟨b, 0, none⟩).run Tryd.prog w = .ok (.int .i64 i) w := by
  go_simp
theorem load_errno {w : World} {b : Nat} {i : Int} (h : w.cell? ⟨b, 0, none⟩ = some (.int .i64 i)) : (loadVar 25 ⟨b, 0, none⟩).run Tryd.prog w = .ok (.int .i64 i) w := by
  go_simp

theorem two_cells {w : World} {r1 r2 : Nat} {t1 t2 : TypeId} {v1 v2 : Value} (h1 : w.heap[r1]? = some (.cells #[v1] t1 (0, 0))) (h2 : w.heap[r2]? = some (.cells #[v2] t2 (0, 0))) (ne : r1 ≠ r2) (v v' : Value) :
    ((w.setCell ⟨r1, 0, none⟩ v).setCell ⟨r2, 0, none⟩ v').cell? ⟨r1, 0, none⟩ = some v ∧ ((w.setCell ⟨r1, 0, none⟩ v).setCell ⟨r2, 0, none⟩ v').cell? ⟨r2, 0, none⟩ = some v' := by
  have a1 : Boxed w r1 t1 v1 := h1
  have a2 : Boxed w r2 t2 v2 := h2
  exact ⟨((a1.set v).kept (grownBy_setCell' _ r2 v') (by simp; exact ne)).cell, ((a2.kept (grownBy_setCell' _ r1 v) (by simp; exact fun e => ne e.symm)).set v').cell⟩

theorem Sl.two (w : World) (a b : Int) (t : TypeId) : Sl (.int .i64) (w.alloc (Obj.cells #[.int .i64 a, .int .i64 b] t)).drew (.slice (some ⟨w.heap.size, 0, none⟩) 2 2) [a, b] := by
  refine ⟨some ⟨w.heap.size, 0, none⟩, 2, rfl, Nat.le_refl _, fun _ => ⟨w.heap.size, 0, rfl, by simp, fun j x hj => ?_⟩⟩
  match j, hj with
  | 0, hj => simp at hj; subst hj; simp [World.cell?_alloc_new]
  | 1, hj => simp at hj; subst hj; simp [World.cell?_alloc_new]

set_option maxRecDepth 100000 in
set_option maxHeartbeats 2000000 in
theorem value_any (h : IsD B w d pb lb cap D) (hl : D.pers.length ≤ 30) (hb1 : 1 ≤ D.below) (hb2 : D.below ≤ 1000000000) :
    Calls Tryd.prog 21 #[.pointer (some ⟨d, 0, none⟩)] w fun e w' => e = .returned (.tuple #[.int .i64 (valR D).1, .int .i64 (valR D).2]) ∧ Below w.heap.size w w' := by
  refine callsIn_wide.1 (callsIn_of_wp_marks (n := 5) Tryd.func21 rfl trivial (wpIn_wide.2 ?_) rfl)
  simp only [Tryd.ntmps21, List.size_toArray, List.length_cons, List.length_nil, Nat.reduceAdd, Nat.reduceSub, Array.replicate_succ, Array.replicate_zero, List.push_toArray, List.append_toArray, List.nil_append, List.cons_append]
  have hdl := lt_of_heap h.self
  have hpl := lt_of_heap h.pers
  have hbw : Below w.heap.size w ((w.alloc (Obj.cells #[Value.int IntKind.i64 0] 3)).alloc (Obj.cells #[Value.int IntKind.i64 0] 25)) := ((Below.refl _ _).alloc (Nat.le_refl _) _).alloc (by simp) _
  have hO := over_any (h.below hbw) hl
  have hs1 : ∀ q : Nat, (((w.alloc (Obj.cells #[Value.int IntKind.i64 0] 3)).alloc (Obj.cells #[Value.int IntKind.i64 0] 25)).drewN q).heap.size = w.heap.size + 2 := fun q => by simp
  have hr1 : ∀ q : Nat, (((w.alloc (Obj.cells #[Value.int IntKind.i64 0] 3)).alloc (Obj.cells #[Value.int IntKind.i64 0] 25)).drewN q).heap[w.heap.size]? = some (.cells #[Value.int IntKind.i64 0] 3 (0, 0)) := fun q => by
    have := World.alloc_heap_new w (Obj.cells #[Value.int IntKind.i64 0] 3)
    exact (Below.heap_alloc (w.alloc (Obj.cells #[Value.int IntKind.i64 0] 3)) _ w.heap.size (by simp)).trans this
  have hr2 : ∀ q : Nat, (((w.alloc (Obj.cells #[Value.int IntKind.i64 0] 3)).alloc (Obj.cells #[Value.int IntKind.i64 0] 25)).drewN q).heap[w.heap.size + 1]? = some (.cells #[Value.int IntKind.i64 0] 25 (0, 0)) := fun q => by
    have := World.alloc_heap_new (w.alloc (Obj.cells #[Value.int IntKind.i64 0] 3)) (Obj.cells #[Value.int IntKind.i64 0] 25)
    simpa using this
  generalize hov : overB D = ov at hO
  cases ov with
  | false =>
    go_wp2_with (go_at_call 43; refine hO.mono ?_; rintro e w1 ⟨rfl, q, rfl⟩)
    obtain ⟨x1, x2⟩ := two_cells (hr1 q) (hr2 q) (by omega) (.int .i64 0) (.int .i64 9)
    refine ⟨_, results_cells rfl rfl rfl (load_int x1) (load_errno x2), ?_⟩
    refine ⟨by simp [valR, hov], ?_⟩
    exact ((below_drewN hbw q).setCell (by simp) _).setCell (by simp) _
  | true =>
    go_wp2_with (go_at_call 43; refine hO.mono ?_; rintro e w1 ⟨rfl, q, rfl⟩)
    have hb1w := below_drewN hbw q
    replace hs1 := hs1 q; replace hr1 := hr1 q; replace hr2 := hr2 q
    generalize ((w.alloc (Obj.cells #[Value.int IntKind.i64 0] 3)).alloc (Obj.cells #[Value.int IntKind.i64 0] 25)).drewN q = w1 at hb1w hs1 hr1 hr2 ⊢
    clear hO hbw
    have hD1 := h.below hb1w
    refine (wpIn_wide (n := 5)).1 ?_
    refine range_first (α := Dev) (gf := 44) (fst := #[.pointer (some ⟨d, 0, none⟩)]) (lb := #[]) rfl (fun args w => rfl) (fun x => #[devV x]) (fun x => rfl) (devs D) w1.heap.size (Nat.le_refl _) ?_
      (fun s W => Below w1.heap.size w1 W ∧ s = []) (fun c s W => c = .ret ∧ Below w.heap.size w1 W ∧ W.cell? ⟨w.heap.size, 0, none⟩ = some (.int .i64 0) ∧ W.cell? ⟨w.heap.size + 1, 0, none⟩ = some (.int .i64 110)) ?_ ?_ ?_ ⟨Below.refl _ _, rfl⟩ ?_ ?_ ?_
    · intro l J Jx W hbW hJ hY h0
      exact deviants_in 4 B d pb lb cap w1.heap.size l D hl J Jx hJ W (hD1.below hbW) (by omega) (by omega) hbW.size hY h0
    · rintro s W W' ⟨h1, h2⟩ hb
      exact ⟨h1.trans (hb.mono h1.size), h2⟩
    · rintro s W l o o' ⟨h1, h2⟩ hl' _ _
      exact ⟨h1.trans (below_putObj hl'), h2⟩
    · rintro c s W l o o' ⟨h1, h2, h3, h4⟩ hl' _ _
      refine ⟨h1, h2.trans (below_putObj (by omega)), ?_, ?_⟩
      · exact (World.cell?_of_block (World.putObj_heap_other (by simp only; omega))).trans h3
      · exact (World.cell?_of_block (World.putObj_heap_other (by simp only; omega))).trans h4
    · intro l pre x rest W hx hl' hI
      obtain ⟨hIb, rfl⟩ := hI
      refine wpIn_skip ?_
      refine ⟨KeepsOthers.refl _, Below.refl _ _, fun o o' ho hoc => ?_⟩
      have a1 : Boxed (W.putObj l o') w.heap.size 3 (.int .i64 0) := (World.putObj_heap_other (by omega)).trans ((hIb.block _ (by omega)).trans hr1)
      have a2 : Boxed (W.putObj l o') (w.heap.size + 1) 25 (.int .i64 0) := (World.putObj_heap_other (by omega)).trans ((hIb.block _ (by omega)).trans hr2)
      have hbp : Below w1.heap.size w1 (W.putObj l o') := hIb.trans (below_putObj hl')
      have hko : ∀ v v', KeepsOthers (W.putObj l o') (((W.putObj l o').setCell ⟨w.heap.size, 0, none⟩ v).setCell ⟨w.heap.size + 1, 0, none⟩ v') := fun v v' => (KeepsOthers.setCell _ _ _).trans (KeepsOthers.setCell _ _ _)
      generalize W.putObj l o' = W2 at a1 a2 hbp hko ⊢
      have z1 := a1.cell; have z2 := a2.cell; have z3 := a1.frozen; have z4 := a2.frozen
      have A1 := Lib.hid a1; have A2 := Lib.hid a2
      clear a1 a2 ho hx
      gi_wp2
      obtain ⟨x1, x2⟩ := two_cells A1.out A2.out (by omega) (.int .i64 0) (.int .i64 110)
      exact ⟨hko _ _, rfl, ((hbp.mono (by omega)).setCell (by simp) _).setCell (by simp) _, x1, x2⟩
    · intro Dd W hDd hI hK
      obtain ⟨hIb, hdv⟩ := hI
      have hbW : Below w.heap.size w W := hb1w.trans (hIb.mono (by omega))
      have hDW := hD1.below hIb
      have c1 := hDW.c1; have c2 := hDW.c2
      have ga1 : Boxed W w.heap.size 3 (.int .i64 0) := (hIb.block _ (by omega)).trans hr1
      have ga2 : Boxed W (w.heap.size + 1) 25 (.int .i64 0) := (hIb.block _ (by omega)).trans hr2
      have hWs := hIb.size
      clear hr1 hr2
      simp only [Exit.inBlock, Exit.then]
      go_at_K
      go_wp2
      have hpb : pb < w1.heap.size := by omega
      have hdb : d < w1.heap.size := by omega
      go_loopw [4, 22] (fun n i wr => ∃ k : Nat, k ≤ D.pers.length ∧ i = .int .i64 k ∧ n = .int .i64 (valF D.below 0 (D.pers.take k)) ∧ 0 ≤ valF D.below 0 (D.pers.take k) ∧ valF D.below 0 (D.pers.take k) < D.below ∧ Below W.heap.size W wr) (fun _ i _ => D.pers.length - (intOf i).toNat)
      case atStart => exact ⟨0, Nat.zero_le _, rfl, by simp [valF], by simp [valF], by simp [valF]; omega, Below.refl _ _⟩
      case round =>
        obtain ⟨k, hk, rfl, rfl, hv0, hv1, hbr⟩ := hrel
        by_cases hlt : k < D.pers.length
        · obtain ⟨p, hpk⟩ := get_some hlt
          have hDr := hDW.below hbr
          have q0 : wr.cell? ⟨pb, k * 5, none⟩ = some (.string ⟨p.hash.toArray⟩) := hDr.p0 hpk
          have q1 := hDr.p1 hpk
          have q2 := hDr.p2 hpk
          have q3 := hDr.p3 hpk
          have q4 := hDr.p4 hpk
          have hs := take_snoc hpk
          have hvs : valF D.below 0 (D.pers.take (k + 1)) = (addFrom D.below 0 [valF D.below 0 (D.pers.take k), p.value]).getD 0 := by rw [hs, valF_app]; rfl
          have hbd : 0 ≤ valF D.below 0 (D.pers.take (k + 1)) ∧ valF D.below 0 (D.pers.take (k + 1)) < D.below := by
            rw [hvs]
            cases ha : addFrom D.below 0 [valF D.below 0 (D.pers.take k), p.value] with
            | none => simp; omega
            | some m => exact addFrom_bd hb1 (Int.le_refl 0) (by omega) ha
          have Hbd := Lib.hid hbd
          have Hvs := Lib.hid hvs
          clear hs hvs hpk hbd
          generalize valF D.below 0 (D.pers.take k) = m at hv0 hv1 Hvs ⊢
          obtain ⟨Wp, hWp⟩ : ∃ Wp, Wp = wr.alloc (Obj.cells #[Value.string ⟨p.hash.toArray⟩, Value.int .i64 p.value, Value.int .i64 p.sl, Value.int .i64 p.opn, Value.bool p.right] 96) := ⟨_, rfl⟩
          have hbp : Below wr.heap.size wr Wp := by rw [hWp]; exact (Below.refl _ _).alloc (Nat.le_refl _) _
          have hz : Wp.heap.size = wr.heap.size + 1 := by rw [hWp]; simp
          have K1 : ∀ W', Below Wp.heap.size Wp W' → W'.cell? ⟨d, 1, none⟩ = some (.int .i64 D.below) ∧ W'.cell? ⟨wr.heap.size, 1, none⟩ = some (.int .i64 p.value) := fun W' hb' => by
            refine ⟨(hDr.below (hbp.trans (hb'.mono (by omega)))).c1, (hb'.cell (by simp; omega)).trans ?_⟩
            rw [hWp]; simp [World.cell?_alloc_new]
          have Hz := Lib.hid hz
          have HWp := Lib.hid hWp
          clear hWp hz
          go_wp2_with fail
          rw [← HWp.out]
          obtain ⟨bo, hbo⟩ : ∃ bo, addRet (addFrom D.below 0 [m, p.value]) = .tuple #[.int .i64 ((addFrom D.below 0 [m, p.value]).getD 0), .bool bo] := by
            cases addFrom D.below 0 [m, p.value] with
            | none => exact ⟨_, rfl⟩
            | some x => exact ⟨_, rfl⟩
          rw [← Hvs.out] at hbo
          have Hbo := Lib.hid hbo
          clear hbo q0 q1 q2 q3 q4
          have hst : Below Wp.heap.size Wp Wp.drew := (Below.refl _ _).drew
          go_region_held3 (fun w' => w'.cell? ⟨d, 1, none⟩ = some (.int .i64 D.below) ∧ w'.cell? ⟨wr.heap.size, 1, none⟩ = some (.int .i64 p.value))
            (first
            | exact K1 _ hst
            | exact K1 _ ((Below.refl _ _).alloc (Nat.le_refl _) _).drew)
            (first
            | (go_at_call 41; refine (add_any D.below _ [m, p.value] _ hb1 hb2 (Sl.two _ _ _ _) (by simp)).mono ?_; rw [Hbo.out]; rintro e w' ⟨rfl, rfl⟩))
          simp only [Exit.inBlock, Exit.then]
          go_at_K
          go_wp2
          go_roundw
          case rel => exact ⟨k + 1, by omega, by simp, rfl, Hbd.out.1, Hbd.out.2, (hbr.trans (hbp.mono hbr.size)).trans ((((Below.refl _ Wp).alloc (Nat.le_refl _) _).drew).mono (by have := Hz.out; have := hbr.size; omega))⟩
          case measure => simp [intOf]; omega
        · obtain rfl : k = D.pers.length := by omega
          rw [List.take_length] at hv0 hv1 ⊢
          have e1 : Boxed wr w.heap.size 3 (.int .i64 0) := (hbr.block _ (by omega)).trans ga1
          have e2 : Boxed wr (w.heap.size + 1) 25 (.int .i64 0) := (hbr.block _ (by omega)).trans ga2
          have hwr := hbr.size
          have hKr : wr.heap[Dd]? = some (.deferred (some [])) := (hbr.block _ (Array.getElem?_eq_some_iff.1 hK).1).trans hK
          have z1 := e1.cell; have z2 := e2.cell; have z3 := e1.frozen; have z4 := e2.frozen
          have E1 := Lib.hid e1; have E2 := Lib.hid e2; have HK := Lib.hid hKr
          clear ga1 ga2 e1 e2 hK hKr
          go_wp2
          obtain ⟨x1, x2⟩ := two_cells E1.out E2.out (by omega) (.int .i64 (valF D.below 0 D.pers)) (.int .i64 0)
          have hk2 : ((wr.setCell ⟨w.heap.size, 0, none⟩ (.int .i64 (valF D.below 0 D.pers))).setCell ⟨w.heap.size + 1, 0, none⟩ (.int .i64 0)).heap[Dd]? = some (.deferred (some [])) := (Below.heap_setCell _ _ _ _ (by simp; omega)).trans ((Below.heap_setCell _ _ _ _ (by simp; omega)).trans HK.out)
          refine ⟨by simp, .inl ⟨_, _, rfl, run_takeDeferred hk2, ?_⟩⟩
          refine ⟨_, results_cells rfl rfl rfl (load_int ((World.cell?_of_block (World.putObj_heap_other (by simp only; omega))).trans x1)) (load_errno ((World.cell?_of_block (World.putObj_heap_other (by simp only; omega))).trans x2)), ?_⟩
          refine ⟨by simp [valR, hov, hdv], ?_⟩
          exact (((hbW.trans (hbr.mono (by omega))).setCell (by simp) _).setCell (by simp) _).trans (below_putObj (by omega))
    · intro Dd c pre x rest W hDd hx hI hK
      obtain ⟨rfl, k1, k2, k3⟩ := hI
      refine wpIn_ret ?_
      refine ⟨by simp, .inl ⟨_, _, rfl, run_takeDeferred hK, ?_⟩⟩
      refine ⟨_, results_cells rfl rfl rfl (load_int ((World.cell?_of_block (World.putObj_heap_other (by simp only; omega))).trans k2)) (load_errno ((World.cell?_of_block (World.putObj_heap_other (by simp only; omega))).trans k3)), ?_⟩
      refine ⟨by simp [valR, hov, hx], ?_⟩
      exact (hb1w.trans k1).trans (below_putObj (by omega))
end Go.Proofs.YtcmpindjgfojaaaDoor
