/- Walks: what a drawing is in memory; find, over, running. -/
import Derived.Test.YtcmpindjgfojaaaDoorWitD
import Derived.Deep.QuietTactic
import Derived.BigQuiet
namespace Go.Proofs.YtcmpindjgfojaaaDoor
open Go.RowKit

theorem cell_far {w : World} {b o b' o' : Nat} (h : b ≠ b' ∨ o ≠ o') (v : Value) : (w.setCell ⟨b, o, none⟩ v).cell? ⟨b', o', none⟩ = w.cell? ⟨b', o', none⟩ := by
  by_cases hb : b = b'
  · subst hb
    have ho : o ≠ o' := by rcases h with h | h; exact absurd rfl h; exact h
    simp only [World.cell?, World.setCell, Array.getElem?_modify, if_true]
    cases w.heap[b]? with
    | none => rfl
    | some x => cases x <;> simp [Array.getElem?_setIfInBounds_ne ho]
  · exact World.cell?_of_block (Below.heap_setCell _ _ _ _ (fun e => hb e.symm))
structure Per where
  hash : List UInt8
  value : Int
  sl : Nat
  opn : Nat
  right : Bool
def perC (p : Per) : List Value := [strV p.hash, .int .i64 p.value, .int .i64 p.sl, .int .i64 p.opn, .bool p.right]
def persC (l : List Per) : List Value := l.flatMap perC
structure Drw where
  lines : List (List UInt8)
  below : Int
  pers : List Per
  nseal : Nat
  nopen : Nat
  closed : Nat
def drwC (lb cap pb : Nat) (D : Drw) : Array Value :=
  #[.slice (some ⟨lb, 0, none⟩) D.lines.length cap, .int .i64 D.below, .slice (some ⟨pb, 0, none⟩) D.pers.length D.pers.length, .int .i64 D.nseal, .int .i64 D.nopen, .int .i64 D.closed]
/-- A drawing in memory: its own block, that of the persons, that of the lines. -/
structure IsD (B : Nat) (w : World) (d pb lb cap : Nat) (D : Drw) : Prop where
  self : w.heap[d]? = some (.cells (drwC lb cap pb D) 94 (0, 0))
  pers : w.heap[pb]? = some (.cells (persC D.pers).toArray 96 (0, 0))
  lines : w.ownsRow B 9 1 (.slice (some ⟨lb, 0, none⟩) D.lines.length cap) D.lines.length (D.lines.map strV)
  dp : d ≠ pb
  dl : d ≠ lb
  pl : pb ≠ lb
  bd : B ≤ d
  bp : B ≤ pb
  bl : B ≤ lb
  b8 : 8 ≤ B

theorem persC_len : ∀ l : List Per, (persC l).length = 5 * l.length
  | [] => rfl
  | p :: l => by
    have := persC_len l
    simp only [persC, List.flatMap_cons, List.length_append, List.length_cons] at this ⊢
    simp [perC] at this ⊢
    omega
theorem persC_get : ∀ (l : List Per) (k : Nat) (p : Per), l[k]? = some p → ∀ i, i < 5 → (persC l)[5 * k + i]? = (perC p)[i]?
  | [], k, p, h, i, hi => by simp at h
  | q :: l, 0, p, h, i, hi => by
    simp at h
    subst h
    have hl : (perC q).length = 5 := rfl
    simp only [persC, List.flatMap_cons, Nat.mul_zero, Nat.zero_add]
    rw [List.getElem?_append_left (by omega)]
  | q :: l, k + 1, p, h, i, hi => by
    have hl : (perC q).length = 5 := rfl
    simp only [persC, List.flatMap_cons]
    rw [List.getElem?_append_right (by omega), hl, show 5 * (k + 1) + i - 5 = 5 * k + i by omega]
    exact persC_get l k p (by simpa using h) i hi
theorem persC_set : ∀ (l : List Per) (k : Nat) (p q : Per) (i : Nat) (v : Value), l[k]? = some p → i < 5 → (perC p).set i v = perC q → (persC l).set (5 * k + i) v = persC (l.set k q)
  | [], k, p, q, i, v, h, hi, e => by simp at h
  | r :: l, 0, p, q, i, v, h, hi, e => by
    simp at h
    subst h
    have hl : (perC r).length = 5 := rfl
    simp only [persC, List.flatMap_cons, Nat.mul_zero, Nat.zero_add, List.set_cons_zero]
    rw [List.set_append_left _ _ (by omega), e]
  | r :: l, k + 1, p, q, i, v, h, hi, e => by
    have hl : (perC r).length = 5 := rfl
    have ih := persC_set l k p q i v (by simpa using h) hi e
    simp only [persC, List.flatMap_cons, List.set_cons_succ] at ih ⊢
    rw [List.set_append_right _ _ (by omega), hl, show 5 * (k + 1) + i - 5 = 5 * k + i by omega, ih]

variable {B : Nat} {w : World} {d pb lb cap : Nat} {D : Drw}
theorem IsD.c0 (h : IsD B w d pb lb cap D) : w.cell? ⟨d, 0, none⟩ = some (.slice (some ⟨lb, 0, none⟩) D.lines.length cap) := (cell_of_heap h.self).trans rfl
theorem IsD.c1 (h : IsD B w d pb lb cap D) : w.cell? ⟨d, 1, none⟩ = some (.int .i64 D.below) := (cell_of_heap h.self).trans rfl
theorem IsD.c2 (h : IsD B w d pb lb cap D) : w.cell? ⟨d, 2, none⟩ = some (.slice (some ⟨pb, 0, none⟩) D.pers.length D.pers.length) := (cell_of_heap h.self).trans rfl
theorem IsD.c3 (h : IsD B w d pb lb cap D) : w.cell? ⟨d, 3, none⟩ = some (.int .i64 D.nseal) := (cell_of_heap h.self).trans rfl
theorem IsD.c4 (h : IsD B w d pb lb cap D) : w.cell? ⟨d, 4, none⟩ = some (.int .i64 D.nopen) := (cell_of_heap h.self).trans rfl
theorem IsD.c5 (h : IsD B w d pb lb cap D) : w.cell? ⟨d, 5, none⟩ = some (.int .i64 D.closed) := (cell_of_heap h.self).trans rfl
theorem IsD.per (h : IsD B w d pb lb cap D) {k : Nat} {p : Per} (hk : D.pers[k]? = some p) (i : Nat) (hi : i < 5) : w.cell? ⟨pb, 5 * k + i, none⟩ = (perC p)[i]? := by
  rw [cell_of_heap h.pers, List.getElem?_toArray]
  exact persC_get _ _ _ hk i hi

theorem IsD.p0 (h : IsD B w d pb lb cap D) {k : Nat} {p : Per} (hk : D.pers[k]? = some p) : w.cell? ⟨pb, k * 5, none⟩ = some (strV p.hash) := by
  have := h.per hk 0 (by decide)
  rw [Nat.mul_comm 5 k] at this
  exact this
theorem IsD.p1 (h : IsD B w d pb lb cap D) {k : Nat} {p : Per} (hk : D.pers[k]? = some p) : w.cell? ⟨pb, k * 5 + 1, none⟩ = some (.int .i64 p.value) := by
  have := h.per hk 1 (by decide)
  rw [Nat.mul_comm 5 k] at this
  exact this
theorem IsD.p2 (h : IsD B w d pb lb cap D) {k : Nat} {p : Per} (hk : D.pers[k]? = some p) : w.cell? ⟨pb, k * 5 + 2, none⟩ = some (.int .i64 p.sl) := by
  have := h.per hk 2 (by decide)
  rw [Nat.mul_comm 5 k] at this
  exact this
theorem IsD.p3 (h : IsD B w d pb lb cap D) {k : Nat} {p : Per} (hk : D.pers[k]? = some p) : w.cell? ⟨pb, k * 5 + 3, none⟩ = some (.int .i64 p.opn) := by
  have := h.per hk 3 (by decide)
  rw [Nat.mul_comm 5 k] at this
  exact this
theorem IsD.p4 (h : IsD B w d pb lb cap D) {k : Nat} {p : Per} (hk : D.pers[k]? = some p) : w.cell? ⟨pb, k * 5 + 4, none⟩ = some (.bool p.right) := by
  have := h.per hk 4 (by decide)
  rw [Nat.mul_comm 5 k] at this
  exact this
theorem IsD.fp (h : IsD B w d pb lb cap D) (i : Nat) : w.frozen? ⟨pb, i, none⟩ = false := free_of_heap h.pers
theorem IsD.fd (h : IsD B w d pb lb cap D) (i : Nat) : w.frozen? ⟨d, i, none⟩ = false := free_of_heap h.self
theorem IsD.below {w' : World} (h : IsD B w d pb lb cap D) (hb : Below w.heap.size w w') : IsD B w' d pb lb cap D :=
  ⟨(hb.block _ (lt_of_heap h.self)).trans h.self, (hb.block _ (lt_of_heap h.pers)).trans h.pers, own_below h.lines hb, h.dp, h.dl, h.pl, h.bd, h.bp, h.bl, h.b8⟩
theorem IsD.setP (h : IsD B w d pb lb cap D) {k i o : Nat} {p q : Per} {v : Value} (hk : D.pers[k]? = some p) (ho : o = k * 5 + i) (hi : i < 5) (hv : (perC p).set i v = perC q) :
    IsD B (w.setCell ⟨pb, o, none⟩ v) d pb lb cap { D with pers := D.pers.set k q } := by
  refine ⟨?_, ?_, own_setCell h.lines (p := ⟨pb, o, none⟩) h.pl v, h.dp, h.dl, h.pl, h.bd, h.bp, h.bl, h.b8⟩
  · rw [Below.heap_setCell _ _ _ _ h.dp, h.self]
    simp [drwC]
  · rw [setCell_heap h.pers]
    subst ho
    rw [Nat.mul_comm k 5, List.setIfInBounds_toArray, persC_set _ _ _ _ _ _ hk hi hv]
theorem IsD.setD (h : IsD B w d pb lb cap D) {i : Nat} {v : Value} {D' : Drw} (hv : (drwC lb cap pb D).setIfInBounds i v = drwC lb cap pb D') (hp : D'.pers = D.pers) (hl : D'.lines = D.lines) :
    IsD B (w.setCell ⟨d, i, none⟩ v) d pb lb cap D' := by
  refine ⟨?_, ?_, ?_, h.dp, h.dl, h.pl, h.bd, h.bp, h.bl, h.b8⟩
  · rw [setCell_heap h.self, hv]
  · rw [Below.heap_setCell _ _ _ _ (Ne.symm h.dp), hp]; exact h.pers
  · rw [hl]; exact own_setCell h.lines (p := ⟨d, i, none⟩) h.dl v
def overB (D : Drw) : Bool := decide (0 < D.closed) || decide (D.nopen = D.pers.length)
def runB (D : Drw) : Bool := decide (D.nseal = D.pers.length) && !overB D

set_option maxHeartbeats 400000 in
theorem find_no (n : Int) (h : IsD B w d pb lb cap D) (hl : D.pers.length ≤ 30) (hn : ¬ (1 ≤ n ∧ n ≤ (D.pers.length : Int))) :
    Calls Tryd.prog 48 #[.pointer (some ⟨d, 0, none⟩), .int .i64 n] w fun e w' => e = .returned (.pointer none) ∧ w = w' := by
  have c2 := h.c2
  have Hn := Lib.hid hn
  clear h hn
  go_enter Tryd.func48, Tryd.ntmps48
  go_wp2_with (go_at_call 40; refine (within_no _ _ _ _ Hn.out).mono ?_; rintro e w' ⟨rfl, rfl⟩)
  go_ret
  exact ⟨rfl, rfl⟩
set_option maxHeartbeats 400000 in
theorem find_yes (n : Int) (h : IsD B w d pb lb cap D) (hl : D.pers.length ≤ 30) (h1 : 1 ≤ n) (h2 : n ≤ (D.pers.length : Int)) :
    Calls Tryd.prog 48 #[.pointer (some ⟨d, 0, none⟩), .int .i64 n] w fun e w' => e = .returned (.pointer (some ⟨pb, (n.toNat - 1) * 5, none⟩)) ∧ w = w' := by
  have c2 := h.c2
  have Hn : Hid (1 ≤ n ∧ n ≤ (D.pers.length : Int)) := ⟨h1, h2⟩
  clear h
  go_enter Tryd.func48, Tryd.ntmps48
  go_wp2_with (go_at_call 40; refine (within_yes _ _ _ _ Hn.out).mono ?_; rintro e w' ⟨rfl, rfl⟩)
  go_ret
  exact ⟨rfl, rfl⟩
set_option maxHeartbeats 400000 in
theorem over_any (h : IsD B w d pb lb cap D) (hl : D.pers.length ≤ 30) :
    Calls Tryd.prog 43 #[.pointer (some ⟨d, 0, none⟩)] w fun e w' => e = .returned (.bool (overB D)) ∧ ∃ q, w' = w.drewN q := by
  have c2 := h.c2
  have c4 := h.c4
  have c5 := h.c5
  clear h
  by_cases hc : 0 < D.closed
  · have hd : decide ((0 : Int) < (D.closed : Int)) = true := by simp; omega
    go_enter Tryd.func43, Tryd.ntmps43
    go_wp2
    go_quiet (fail)
    go_wp2
    go_ret
    exact ⟨by simp [overB, hc], nq, rfl⟩
  · have hd : decide ((0 : Int) < (D.closed : Int)) = false := by simp; omega
    go_enter Tryd.func43, Tryd.ntmps43
    go_wp2
    go_quiet (fail)
    go_wp2
    go_ret
    refine ⟨ret_bool ?_, nq, rfl⟩
    simp only [overB, decide_eq_false hc, Bool.false_or]
    rw [Bool.eq_iff_iff]
    simp
    omega
set_option maxHeartbeats 400000 in
theorem running_any (h : IsD B w d pb lb cap D) (hl : D.pers.length ≤ 30) :
    Calls Tryd.prog 51 #[.pointer (some ⟨d, 0, none⟩)] w fun e w' => e = .returned (.bool (runB D)) ∧ ∃ q, w' = w.drewN q := by
  have c2 := h.c2
  have c3 := h.c3
  have HO := fun q : Nat => over_any (h.below (below_drewN (Below.refl _ _) q)) hl
  clear h
  by_cases hc : D.nseal = D.pers.length
  · have hd : ((D.nseal : Int) == (D.pers.length : Int)) = true := by simp [hc]
    have Hc := Lib.hid hc; clear hc
    go_enter Tryd.func51, Tryd.ntmps51
    go_wp2
    go_quiet ((go_at_call 43; exact Calls.quiet_of (HO _)))
    go_wp2
    go_ret
    exact ⟨by simp [runB, Hc.out], nq, rfl⟩
  · have hd : ((D.nseal : Int) == (D.pers.length : Int)) = false := by simp; omega
    have Hc := Lib.hid hc; clear hc
    go_enter Tryd.func51, Tryd.ntmps51
    go_wp2
    go_quiet (fail)
    go_wp2
    go_ret
    exact ⟨by simp [runB, Hc.out], nq, rfl⟩
end Go.Proofs.YtcmpindjgfojaaaDoor
