/- A range over a function value that bears its receiver: the law, for the wide fence. -/
import Derived.Test.YtcmpindjgfojaaaDoorLib
import Derived.RangeFuncLeaves
import Derived.RangeFuncRecord
import Derived.RangeFuncNested
import Derived.RangeFuncBound
import Derived.RangeFuncCalls
namespace Go.Proofs.YtcmpindjgfojaaaDoor
open Go.RowKit

section
variable {P : Program} {α : Type}
/-- What is said of a world stays where new memory is made. -/
def Mono (J : List α → World → Prop) : Prop := ∀ s W W', J s W → Below W.heap.size W W' → J s W'
/-- What is said of a world is not about the loop's own records. -/
def Loopy (B : Nat) (J : List α → World → Prop) : Prop := ∀ s W l o o', J s W → B ≤ l → W.heap[l]? = some o → o.isCells = false → J s (W.putObj l o')
/-- How a round may be left. -/
def RoundP (nB : Nat) (I : List α → World → Prop) (Ix : Code → List α → World → Prop) (s : List α) (W : World) : Exit → Act → World → Prop
  | .normal, _, W' => KeepsOthers W W' ∧ Below nB W W' ∧ I s W'
  | .ret, _, W' => KeepsOthers W W' ∧ Ix .ret s W'
  | .exit id, _, W' => KeepsOthers W W' ∧ Ix (.exit id) s W'
  | _, _, _ => False

theorem below_putObj {nB : Nat} {W : World} {l : Nat} {o : Obj} (h : nB ≤ l) : Below nB W (W.putObj l o) :=
  ⟨rfl, rfl, rfl, by simp, fun k hk => World.putObj_heap_other (by omega)⟩

theorem range_first {g : Operand} {ps : Array Tmp} {assign body : Code} {Q : Exit → Act → World → Prop} {a : Act} {w : World} {n gf : Nat} {fst lb : Array Value}
    (hg : a.eval g = .func (.func gf) fst lb) (eg : ∀ args w, (callFunc gf args).run P w = .ok (.enter gf args) w)
    (encs : α → Array Value) (hps : ∀ x, (encs x).size = ps.size) (xs : List α) (nB : Nat) (hnB : nB ≤ w.heap.size)
    (hseq : ∀ (l : Nat) (J Jx : List α → World → Prop) (W : World), Below w.heap.size w W → Mono J →
      (∀ pre x rest W1, xs = pre ++ x :: rest → J pre W1 → YieldAt Fence.wide (n - 1 - 1) P l (encs x) W1 fun e W' =>
        (e = .returned (.bool true) ∧ J (pre ++ [x]) W' ∧ Below nB W1 W') ∨ (e = .returned (.bool false) ∧ Jx (pre ++ [x]) W')) → J [] W →
      CallsIn Fence.wide (n - 1) P gf (fst ++ #[.func (.yield l) #[] #[]] ++ lb) W fun e W' => (∃ v, e = .returned v) ∧ (J xs W' ∨ ∃ pre x rest, xs = pre ++ x :: rest ∧ Jx (pre ++ [x]) W'))
    (I : List α → World → Prop) (Ix : Code → List α → World → Prop) (hI : Mono I) (hIl : Loopy w.heap.size I) (hIxl : ∀ c, Loopy w.heap.size (Ix c)) (h0 : I [] w)
    (hround : ∀ l pre x rest W, xs = pre ++ x :: rest → w.heap.size ≤ l → I pre W →
      assign.wpIn (Fence.wide.inRound l) (n - 1 - 1) P (Exit.then (fun a1 W1 => KeepsOthers W W1 ∧ Below nB W W1 ∧ ∀ o o', W1.heap[l]? = some o → o.isCells = false →
        body.wpIn (Fence.wide.inRound l) (n - 1 - 1) P (RoundP nB I Ix (pre ++ [x]) (W1.putObj l o')) a1 (W1.putObj l o')) (fun _ _ _ => False))
        { tmps := (ps.zip (encs x)).foldl (fun t (p, v) => t.setIfInBounds p v) a.tmps, defers := [] } W)
    (hdone : ∀ (Dd : Nat) (W : World), w.heap.size ≤ Dd → I xs W → W.heap[Dd]? = some (.deferred (some [])) → Q .normal { a with defers := { target := .collected Dd, args := #[] } :: a.defers } W)
    (hstop : ∀ (Dd : Nat) (c : Code) pre x rest (W : World), w.heap.size ≤ Dd → xs = pre ++ x :: rest → Ix c (pre ++ [x]) W → W.heap[Dd]? = some (.deferred (some [])) → c.wpIn Fence.wide n P Q { a with defers := { target := .collected Dd, args := #[] } :: a.defers } W) :
    (Code.rangeFunc g ps assign body).wpIn Fence.wide n P Q a w := by
  refine wpIn_rangeFunc ?_
  intro fn hfn
  obtain ⟨rec, hrec⟩ : ∃ rec : LoopState → Option Code → Loop, rec = fun st pe => { state := st, pending := pe, fn, tmps := a.tmps, params := ps, assign, body, defers := w.heap.size } := ⟨_, rfl⟩
  obtain ⟨W1, hW1⟩ : ∃ W1, (w.alloc (.deferred (some []))).alloc (.loop (rec .ready none)) = W1 := ⟨_, rfl⟩
  have hsz : W1.heap.size = w.heap.size + 1 + 1 := by rw [← hW1]; simp
  have hL1 : W1.heap[w.heap.size + 1]? = some (.loop (rec .ready none)) := by
    rw [← hW1]
    have := World.alloc_heap_new (w.alloc (.deferred (some []))) (.loop (rec .ready none))
    simpa using this
  have hK1 : W1.heap[w.heap.size]? = some (.deferred (some [])) := by
    rw [← hW1]; exact (Below.heap_alloc _ _ _ (by simp)).trans (World.alloc_heap_new w _)
  have hb1 : Below w.heap.size w W1 := by
    rw [← hW1]; exact ((Below.refl _ w).alloc (Nat.le_refl _) _).alloc (by simp) _
  have hI1 : I [] W1 := hI _ _ _ h0 hb1
  refine ⟨w.heap.size + 1, [{ target := .collected w.heap.size, args := #[] }], W1, { target := .fn (.func gf) lb, args := fst ++ #[.func (.yield (w.heap.size + 1)) #[] #[]] }, W1, gf,
    fst ++ #[.func (.yield (w.heap.size + 1)) #[] #[]] ++ lb, W1, ?_, ?_, ?_, ?_, (fun h => by cases h), ?_⟩
  · rw [← hW1, hrec]; exact run_enterLoop_outer _ _ _ _ _
  · simp only [resolve, hg]
    simp [go_sem]
  · intro f' _; trivial
  · simp [invoke, go_sem, eg]
  · refine (hseq (w.heap.size + 1)
      (fun pre W => I pre W ∧ W.heap[w.heap.size + 1]? = some (.loop (rec .ready none)) ∧ W.heap[w.heap.size]? = some (.deferred (some [])))
      (fun pre W => ∃ c, Ix c pre W ∧ W.heap[w.heap.size + 1]? = some (.loop (rec .done (some c))) ∧ W.heap[w.heap.size]? = some (.deferred (some [])))
      W1 hb1 ?_ ?_ ⟨hI1, hL1, hK1⟩).mono ?_
    · rintro s A B ⟨h1, h2, h3⟩ hb
      exact ⟨hI _ _ _ h1 hb, (hb.block _ (Array.getElem?_eq_some_iff.1 h2).1).trans h2, (hb.block _ (Array.getElem?_eq_some_iff.1 h3).1).trans h3⟩
    · rintro pre x rest W hx ⟨hi, hl, hk⟩
      have hy := run_yield (P := P) (args := encs x) hl (by rw [hrec]; exact hps x)
      rw [hrec] at hy
      refine ⟨fn, _, assign, body, hy, roundIn_of_wpIn hfn (wpIn_mono (hround (w.heap.size + 1) pre x rest W hx (by omega) hi) ?_)⟩
      rintro e a1 Wa hp
      cases e with
      | normal =>
        obtain ⟨hko, hbw, hbody⟩ := hp
        have hla := hko.same _ _ hl rfl
        have hka := hko.same _ _ hk rfl
        refine ⟨_, run_beginRound hla (by rw [hrec]), ?_⟩
        refine wpIn_mono (hbody _ _ hla rfl) ?_
        have hl2 : (Wa.putObj (w.heap.size + 1) (.loop { rec .ready none with state := .busy })).heap[w.heap.size + 1]? = some (.loop { rec .ready none with state := .busy }) := World.putObj_heap_same (Array.getElem?_eq_some_iff.1 hla).1
        have hk2 : (Wa.putObj (w.heap.size + 1) (.loop { rec .ready none with state := .busy })).heap[w.heap.size]? = some (.deferred (some [])) := (World.putObj_heap_other (by omega)).trans hka
        have hb2 : Below nB W (Wa.putObj (w.heap.size + 1) (.loop { rec .ready none with state := .busy })) := hbw.trans (below_putObj (by omega))
        generalize hW2 : Wa.putObj (w.heap.size + 1) (.loop { rec .ready none with state := .busy }) = W2 at hl2 hk2 hb2 ⊢
        rintro e a3 W3 hp3
        have fin : ∀ (jump : Option Code), KeepsOthers W2 W3 → ∃ W4, (Instr.endRound (w.heap.size + 1) jump).run P W3 = .ok (.bool jump.isNone) W4 ∧
            W4.heap[w.heap.size + 1]? = some (.loop (rec (if jump.isNone then .ready else .done) jump)) ∧ W4.heap[w.heap.size]? = some (.deferred (some [])) ∧
            (∀ J : List α → World → Prop, Loopy w.heap.size J → ∀ s, J s W3 → J s W4) ∧ Below nB W3 W4 := by
          intro jump hk3
          have hl3 := hk3.same _ _ hl2 rfl
          have hkk := hk3.same _ _ hk2 rfl
          refine ⟨_, run_endRound (P := P) jump hl3, ?_, (World.putObj_heap_other (by omega)).trans hkk, fun J hJ s hs => hJ s W3 _ _ _ hs (by omega) hl3 rfl, below_putObj (by omega)⟩
          rw [World.putObj_heap_same (Array.getElem?_eq_some_iff.1 hl3).1, hrec]
        cases e with
        | normal =>
          obtain ⟨hk3, hbe, hi3⟩ := hp3
          obtain ⟨W4, hr, hl4, hk4, hJ4, hb4⟩ := fin none hk3
          exact ⟨_, W4, hr, .inl ⟨rfl, ⟨hJ4 _ hIl _ hi3, hl4, hk4⟩, (hb2.trans hbe).trans hb4⟩⟩
        | ret =>
          obtain ⟨hk3, hi3⟩ := hp3
          obtain ⟨W4, hr, hl4, hk4, hJ4, hb4⟩ := fin (some .ret) hk3
          exact ⟨_, W4, hr, .inr ⟨rfl, .ret, hJ4 _ (hIxl _) _ hi3, hl4, hk4⟩⟩
        | exit id =>
          obtain ⟨hk3, hi3⟩ := hp3
          obtain ⟨W4, hr, hl4, hk4, hJ4, hb4⟩ := fin (some (.exit id)) hk3
          exact ⟨_, W4, hr, .inr ⟨rfl, .exit id, hJ4 _ (hIxl _) _ hi3, hl4, hk4⟩⟩
        | goto t => exact hp3.elim
        | panic c => exact hp3.elim
        | outgrown => exact hp3.elim
      | ret => exact hp.elim
      | exit id => exact hp.elim
      | goto t => exact hp.elim
      | panic c => exact hp.elim
      | outgrown => exact hp.elim
    · rintro e W' ⟨⟨v, rfl⟩, ⟨hi, hl, hk⟩ | ⟨pre, x, rest, hx, c, hix, hl, hk⟩⟩
      · refine ⟨_, _, run_endLoop hl (by rw [hrec]; simp), ?_⟩
        have hp : (rec .ready none).pending = none := by rw [hrec]
        rw [hp]
        exact hdone w.heap.size _ (Nat.le_refl _) (hIl _ _ _ _ _ hi (by omega) hl rfl) ((World.putObj_heap_other (by omega)).trans hk)
      · refine ⟨_, _, run_endLoop hl (by rw [hrec]; simp), ?_⟩
        have hp : (rec .done (some c)).pending = some c := by rw [hrec]
        rw [hp]
        exact hstop w.heap.size c pre x rest _ (Nat.le_refl _) hx (hIxl _ _ _ _ _ _ hix (by omega) hl rfl) ((World.putObj_heap_other (by omega)).trans hk)
end
end Go.Proofs.YtcmpindjgfojaaaDoor
