/- Walks: the deviants of a drawing, as they are yielded. -/
import Derived.Test.YtcmpindjgfojaaaDoorWitG
import Derived.Test.YtcmpindjgfojaaaDoorRange
import Derived.RangeFuncBox
import Derived.OwnWalkIn
import Derived.TacticsInMore
import Derived.LoopNIn
import Derived.LoopIn
namespace Go.Proofs.YtcmpindjgfojaaaDoor
open Go.RowKit

attribute [local go_sem] Oper.semAt_some

structure Dev where
  person : Int
  kind : Int
  sl : Int
  line : Int
def devV (x : Dev) : Value := .agg #[.int .i64 x.person, .int .i64 x.kind, .int .i64 x.sl, .int .i64 x.line]
def devAt (closed i : Nat) (p : Per) : List Dev :=
  if 0 < p.opn ∧ p.right = false then [⟨i + 1, 1, p.sl, p.opn⟩] else if p.opn = 0 ∧ 0 < closed then [⟨i + 1, 2, p.sl, closed⟩] else []
def devsFrom (closed : Nat) : Nat → List Per → List Dev
  | _, [] => []
  | i, p :: r => devAt closed i p ++ devsFrom closed (i + 1) r
theorem devsFrom_app (closed : Nat) : ∀ (a b : List Per) (i : Nat), devsFrom closed i (a ++ b) = devsFrom closed i a ++ devsFrom closed (i + a.length) b
  | [], b, i => by simp [devsFrom]
  | p :: a, b, i => by
    simp only [List.cons_append, devsFrom, List.append_assoc, List.length_cons]
    rw [devsFrom_app closed a b (i + 1), show i + 1 + a.length = i + (a.length + 1) by omega]
def devs (D : Drw) : List Dev := devsFrom D.closed 0 D.pers
theorem devs_snoc {D : Drw} {k : Nat} {p : Per} (h : D.pers[k]? = some p) : devsFrom D.closed 0 (D.pers.take (k + 1)) = devsFrom D.closed 0 (D.pers.take k) ++ devAt D.closed k p := by
  have hk := (List.getElem?_eq_some_iff.1 h).1
  rw [take_snoc h, devsFrom_app, List.length_take, Nat.min_eq_left (by omega)]
  simp [devsFrom]
theorem devs_split {D : Drw} {k : Nat} {p : Per} {x : Dev} (h : D.pers[k]? = some p) (hx : devAt D.closed k p = [x]) : ∃ rest, devs D = devsFrom D.closed 0 (D.pers.take k) ++ x :: rest := by
  refine ⟨devsFrom D.closed (k + 1) (D.pers.drop (k + 1)), ?_⟩
  have hk := (List.getElem?_eq_some_iff.1 h).1
  unfold devs
  conv => lhs; rw [← List.take_append_drop (k + 1) D.pers]
  rw [devsFrom_app, devs_snoc h, hx, List.length_take, Nat.min_eq_left (by omega)]
  simp

set_option maxRecDepth 100000 in
set_option maxHeartbeats 2000000 in
theorem deviants_in (n : Nat) (B d pb lb cap nB l : Nat) (D : Drw) (hl : D.pers.length ≤ 30) (J Jx : List Dev → World → Prop) (hJ : Mono J) (W : World) (hD : IsD B W d pb lb cap D) (hd : d < nB) (hp : pb < nB) (hnB : nB ≤ W.heap.size)
    (hY : ∀ pre x rest W1, devs D = pre ++ x :: rest → J pre W1 → YieldAt Fence.wide (n - 1) Tryd.prog l #[devV x] W1 fun e W' =>
      (e = .returned (.bool true) ∧ J (pre ++ [x]) W' ∧ Below nB W1 W') ∨ (e = .returned (.bool false) ∧ Jx (pre ++ [x]) W'))
    (h0 : J [] W) :
    CallsIn Fence.wide n Tryd.prog 44 #[.pointer (some ⟨d, 0, none⟩), .func (.yield l) #[] #[]] W fun e W' => (∃ v, e = .returned v) ∧
      (J (devs D) W' ∨ ∃ pre x rest, devs D = pre ++ x :: rest ∧ Jx (pre ++ [x]) W') := by
  have c2 := hD.c2
  refine callsIn_of_wp Tryd.func44 rfl trivial ?_ rfl
  simp only [Tryd.ntmps44, List.size_toArray, List.length_cons, List.length_nil, Nat.reduceAdd, Nat.reduceSub, Array.replicate_succ, Array.replicate_zero, List.push_toArray, List.append_toArray, List.nil_append, List.cons_append]
  gi_wp2
  gi_loopw [12] (fun i wr => ∃ k : Nat, k ≤ D.pers.length ∧ i = .int .i64 k ∧ J (devsFrom D.closed 0 (D.pers.take k)) wr ∧ Below nB W wr) (fun i _ => D.pers.length - (intOf i).toNat)
  case atStart => exact ⟨0, Nat.zero_le _, rfl, h0, Below.refl _ _⟩
  case round =>
    obtain ⟨k, hk, rfl, hJs, hnx⟩ := hrel
    by_cases hlt : k < D.pers.length
    · obtain ⟨p, hpk⟩ := get_some hlt
      have q0 : wr.cell? ⟨pb, k * 5, none⟩ = some (.string ⟨p.hash.toArray⟩) := (hnx.cell (p := ⟨pb, k * 5, none⟩) hp).trans (hD.p0 hpk)
      have q1 := (hnx.cell (p := ⟨pb, k * 5 + 1, none⟩) hp).trans (hD.p1 hpk)
      have q2 := (hnx.cell (p := ⟨pb, k * 5 + 2, none⟩) hp).trans (hD.p2 hpk)
      have q3 := (hnx.cell (p := ⟨pb, k * 5 + 3, none⟩) hp).trans (hD.p3 hpk)
      have q4 := (hnx.cell (p := ⟨pb, k * 5 + 4, none⟩) hp).trans (hD.p4 hpk)
      have c5 := (hnx.cell (p := ⟨d, 5, none⟩) hd).trans hD.c5
      have hnw : nB ≤ wr.heap.size := Nat.le_trans hnB hnx.size
      by_cases h1 : 0 < p.opn
      · have h1i : (0 : Int) < (p.opn : Int) := by omega
        have h1e : ((p.opn : Int) == 0) = false := by simp; omega
        cases h2 : p.right with
        | false =>
          rw [h2] at q4
          have hx : devAt D.closed k p = [⟨k + 1, 1, p.sl, p.opn⟩] := by simp [devAt, h1, h2]
          obtain ⟨rest, hsp⟩ := devs_split hpk hx
          have hbw : Below wr.heap.size wr ((wr.alloc (Obj.cells #[Value.string ⟨p.hash.toArray⟩, Value.int .i64 p.value, Value.int .i64 p.sl, Value.int .i64 p.opn, Value.bool false] 96)).alloc (Obj.cells #[Value.int .i64 ((k : Int) + 1), Value.int .i64 1, Value.int .i64 p.sl, Value.int .i64 p.opn] 66)).drew := (((Below.refl _ wr).alloc (Nat.le_refl _) _).alloc (by simp) _).drew
          obtain ⟨fn, tmps, assign, body, hy, hR⟩ := hY _ _ rest _ hsp (hJ _ _ _ hJs hbw)
          have hbn : Below nB W ((wr.alloc (Obj.cells #[Value.string ⟨p.hash.toArray⟩, Value.int .i64 p.value, Value.int .i64 p.sl, Value.int .i64 p.opn, Value.bool false] 96)).alloc (Obj.cells #[Value.int .i64 ((k : Int) + 1), Value.int .i64 1, Value.int .i64 p.sl, Value.int .i64 p.opn] 66)).drew := hnx.trans (hbw.mono hnw)
          simp only [devV] at hy
          have Hs := Lib.hid (devs_snoc hpk); have Hx := Lib.hid hx; have Hp := Lib.hid hpk; have Hsp := Lib.hid hsp
          clear hx hpk hsp
          gi_wp2
          gi_region
          all_goals gi_wp2
          refine ⟨(fun h => by cases h), hR.mono ?_⟩
          rintro e W3 (⟨rfl, hJ3, hk3⟩ | ⟨rfl, hJx3⟩)
          · gi_wp2
            go_roundw
            case rel => exact ⟨k + 1, by omega, by simp, by rw [Hs.out, Hx.out]; exact hJ3, hbn.trans hk3⟩
            case measure => simp [intOf]; omega
          · gi_wp2
            refine bodyPost_ret (results_none rfl _ _ _) rfl ?_
            exact ⟨⟨_, rfl⟩, .inr ⟨_, _, rest, Hsp.out, hJx3⟩⟩
        | true =>
          rw [h2] at q4
          have hx : devAt D.closed k p = [] := by simp [devAt, h1, h2]; omega
          have Hs := Lib.hid (devs_snoc hpk); have Hx := Lib.hid hx
          clear hx hpk
          gi_wp2
          go_roundw
          case rel => exact ⟨k + 1, by omega, by simp, by rw [Hs.out, Hx.out, List.append_nil]; exact hJ _ _ _ hJs (((Below.refl _ wr).alloc (Nat.le_refl _) _).alloc (by simp) _), hnx.trans ((((Below.refl _ wr).alloc (Nat.le_refl _) _).alloc (by simp) _).mono hnw)⟩
          case measure => simp [intOf]; omega
      · have h10 : p.opn = 0 := by omega
        rw [h10] at q3
        have c5x : ∀ X : Array Value, ((wr.alloc (Obj.cells #[Value.string ⟨p.hash.toArray⟩, Value.int .i64 p.value, Value.int .i64 p.sl, Value.int .i64 0, Value.bool p.right] 96)).alloc (Obj.cells X 66)).cell? ⟨d, 5, none⟩ = some (.int .i64 D.closed) := fun X => by
          refine ((Below.cell (((Below.refl nB wr).alloc hnw _).alloc (by simp; omega) _) ?_)).trans c5
          exact hd
        by_cases h3 : 0 < D.closed
        · have h3i : (0 : Int) < (D.closed : Int) := by omega
          have hx : devAt D.closed k p = [⟨k + 1, 2, p.sl, D.closed⟩] := by simp [devAt, h10, h3]
          obtain ⟨rest, hsp⟩ := devs_split hpk hx
          have hbw : Below wr.heap.size wr ((wr.alloc (Obj.cells #[Value.string ⟨p.hash.toArray⟩, Value.int .i64 p.value, Value.int .i64 p.sl, Value.int .i64 0, Value.bool p.right] 96)).alloc (Obj.cells #[Value.int .i64 ((k : Int) + 1), Value.int .i64 2, Value.int .i64 p.sl, Value.int .i64 D.closed] 66)).drew := (((Below.refl _ wr).alloc (Nat.le_refl _) _).alloc (by simp) _).drew
          obtain ⟨fn, tmps, assign, body, hy, hR⟩ := hY _ _ rest _ hsp (hJ _ _ _ hJs hbw)
          have hbn : Below nB W ((wr.alloc (Obj.cells #[Value.string ⟨p.hash.toArray⟩, Value.int .i64 p.value, Value.int .i64 p.sl, Value.int .i64 0, Value.bool p.right] 96)).alloc (Obj.cells #[Value.int .i64 ((k : Int) + 1), Value.int .i64 2, Value.int .i64 p.sl, Value.int .i64 D.closed] 66)).drew := hnx.trans (hbw.mono hnw)
          simp only [devV] at hy
          have Hs := Lib.hid (devs_snoc hpk); have Hx := Lib.hid hx; have Hp := Lib.hid hpk; have Hsp := Lib.hid hsp
          clear hx hpk hsp
          gi_wp2
          gi_region
          all_goals gi_wp2
          refine ⟨(fun h => by cases h), hR.mono ?_⟩
          rintro e W3 (⟨rfl, hJ3, hk3⟩ | ⟨rfl, hJx3⟩)
          · gi_wp2
            go_roundw
            case rel => exact ⟨k + 1, by omega, by simp, by rw [Hs.out, Hx.out]; exact hJ3, hbn.trans hk3⟩
            case measure => simp [intOf]; omega
          · gi_wp2
            refine bodyPost_ret (results_none rfl _ _ _) rfl ?_
            exact ⟨⟨_, rfl⟩, .inr ⟨_, _, rest, Hsp.out, hJx3⟩⟩
        · have h3i : ¬ (0 : Int) < (D.closed : Int) := by omega
          have hx : devAt D.closed k p = [] := by simp [devAt, h10, h3]
          have Hs := Lib.hid (devs_snoc hpk); have Hx := Lib.hid hx
          clear hx hpk
          gi_wp2
          go_roundw
          case rel => exact ⟨k + 1, by omega, by simp, by rw [Hs.out, Hx.out, List.append_nil]; exact hJ _ _ _ hJs (((Below.refl _ wr).alloc (Nat.le_refl _) _).alloc (by simp) _), hnx.trans ((((Below.refl _ wr).alloc (Nat.le_refl _) _).alloc (by simp) _).mono hnw)⟩
          case measure => simp [intOf]; omega
    · obtain rfl : k = D.pers.length := by omega
      gi_wp2
      go_end0
      refine ⟨⟨_, rfl⟩, .inl ?_⟩
      rw [List.take_length] at hJs
      exact hJs
end Go.Proofs.YtcmpindjgfojaaaDoor
