/- Walks of package witness: numbers, hashes, shares. -/
import Derived.Test.YtcmpindjgfojaaaDoorLib
namespace Go.Proofs.YtcmpindjgfojaaaDoor
open Go.RowKit

theorem within_any (n a b : Int) (w : World) :
    Calls Tryd.prog 40 #[.int .i64 n, .int .i64 a, .int .i64 b] w fun e w' => e = .returned (.bool (decide (a ≤ n ∧ n ≤ b))) ∧ w = w' := by
  go_enter Tryd.func40, Tryd.ntmps40
  go_wp2
  · have h : a ≤ n := by assumption
    go_ret; simp [h]
  · have h : n < a := by assumption
    have h' : ¬ a ≤ n := by omega
    go_ret; simp [h']
theorem within_yes (n a b : Int) (w : World) (h : a ≤ n ∧ n ≤ b) :
    Calls Tryd.prog 40 #[.int .i64 n, .int .i64 a, .int .i64 b] w fun e w' => e = .returned (.bool true) ∧ w = w' :=
  (within_any n a b w).mono fun _ _ ⟨he, hw⟩ => ⟨by rw [he, decide_eq_true h], hw⟩
theorem within_no (n a b : Int) (w : World) (h : ¬ (a ≤ n ∧ n ≤ b)) :
    Calls Tryd.prog 40 #[.int .i64 n, .int .i64 a, .int .i64 b] w fun e w' => e = .returned (.bool false) ∧ w = w' :=
  (within_any n a b w).mono fun _ _ ⟨he, hw⟩ => ⟨by rw [he, decide_eq_false h], hw⟩

theorem within_yes' (n a b : Int) (w : World) (h : a ≤ n ∧ n ≤ b) :
    Calls Tryd.prog 40 #[.int .i64 n, .int .i64 a, .int .i64 b] w fun e w' => e = .returned (.bool true) ∧ w' = w :=
  (within_yes n a b w h).mono fun _ _ ⟨he, hw⟩ => ⟨he, hw.symm⟩
theorem within_no' (n a b : Int) (w : World) (h : ¬ (a ≤ n ∧ n ≤ b)) :
    Calls Tryd.prog 40 #[.int .i64 n, .int .i64 a, .int .i64 b] w fun e w' => e = .returned (.bool false) ∧ w' = w :=
  (within_no n a b w h).mono fun _ _ ⟨he, hw⟩ => ⟨he, hw.symm⟩

/-- FNV-1a: one byte more. -/
def fnvStep (h : Int) (c : UInt8) : Int := IntKind.u64.wrap (bits BinOp.xor IntKind.u64 h (c.toNat : Int) * 1099511628211)
def fnvOn (h : Int) (l : List UInt8) : Int := l.foldl fnvStep h
theorem fnv_take (h : Int) (s : ByteArray) (k : Nat) (hk : k < s.size) : fnvOn h (s.data.toList.take (k + 1)) =
    IntKind.u64.wrap (bits BinOp.xor IntKind.u64 (fnvOn h (s.data.toList.take k)) (IntKind.u64.wrap (s.data[k].toNat : Int)) * 1099511628211) := by
  rw [List.take_succ_eq_append_getElem (by simpa using hk), wrap_u8]
  simp [fnvOn, fnvStep]
set_option maxRecDepth 100000 in
set_option maxHeartbeats 400000 in
theorem with_any (h : Int) (s : ByteArray) (w : World) (hs : s.size ≤ 140737488351232) :
    Calls Tryd.prog 33 #[.int .u64 h, .string s] w fun e w' => e = .returned (.int .u64 (fnvOn h s.data.toList)) ∧ Below w.heap.size w w' := by
  obtain ⟨cap, w1, hrun, hb, hsz, hc, hcap⟩ := run_sb w 9 40 5 s Tryd.underlying9 Tryd.underlying40 Tryd.underlying5
  go_enter Tryd.func33, Tryd.ntmps33
  go_wp2
  go_loop [0, 10] (fun a i => ∃ k : Nat, k ≤ s.size ∧ i = .int .i64 k ∧ a = .int .u64 (fnvOn h (s.data.toList.take k))) (fun _ i => s.size - (intOf i).toNat)
  case atStart => exact ⟨0, Nat.zero_le _, rfl, rfl⟩
  case round =>
    obtain ⟨k, hk, rfl, rfl⟩ := hrel
    by_cases hlt : k < s.size
    · have hck := hc k hlt
      go_wp2
      go_round
      case rel => exact ⟨k + 1, by omega, by go_num, by rw [fnv_take h s k hlt]⟩
      case measure => simp [intOf]; omega
    · go_wp2
      go_ret
      exact ⟨ret_int (by rw [List.take_of_length_le (by simp; omega)]), hb⟩

/-- The value of shares; none: one of them is no share. -/
def addFrom (below : Int) : Int → List Int → Option Int
  | n, [] => some n
  | n, s :: r => if 0 ≤ s ∧ s ≤ below - 1 then addFrom below ((n + s) % below) r else none
theorem addFrom_bd {below : Int} (h1 : 1 ≤ below) : ∀ {xs : List Int} {n m : Int}, 0 ≤ n → n < below → addFrom below n xs = some m → 0 ≤ m ∧ m < below
  | [], n, m, h0, hn, h => by simp [addFrom] at h; omega
  | s :: r, n, m, h0, hn, h => by
    unfold addFrom at h
    split at h
    · exact addFrom_bd h1 (Int.emod_nonneg _ (by omega)) (Int.emod_lt_of_pos _ (by omega)) h
    · cases h
theorem addFrom_app {below : Int} : ∀ (xs ys : List Int) (n : Int), addFrom below n (xs ++ ys) = (addFrom below n xs).bind fun m => addFrom below m ys
  | [], ys, n => rfl
  | s :: r, ys, n => by
    simp only [List.cons_append, addFrom]
    split
    · exact addFrom_app r ys _
    · rfl
/-- What Go's add returns. -/
def addRet : Option Int → Value
  | some n => .tuple #[.int .i64 n, .bool true]
  | none => .tuple #[.int .i64 0, .bool false]

set_option maxHeartbeats 400000 in
theorem add_any (below : Int) (v : Value) (xs : List Int) (w : World) (h1 : 1 ≤ below) (h2 : below ≤ 1000000000) (hv : Sl (.int .i64) w v xs) (hl : xs.length ≤ 140737488351232) :
    Calls Tryd.prog 41 #[.int .i64 below, v] w fun e w' => e = .returned (addRet (addFrom below 0 xs)) ∧ w = w' := by
  obtain ⟨a, c, rfl, hcap, hx⟩ := hv
  go_enter Tryd.func41, Tryd.ntmps41
  go_wp2
  go_loop [4, 10] (fun n i => ∃ (k : Nat) (m : Int), k ≤ xs.length ∧ i = .int .i64 k ∧ n = .int .i64 m ∧ 0 ≤ m ∧ m < below ∧ addFrom below 0 (xs.take k) = some m) (fun _ i => xs.length - (intOf i).toNat)
  case atStart => exact ⟨0, 0, Nat.zero_le _, rfl, rfl, by omega, by omega, rfl⟩
  case round =>
    obtain ⟨k, m, hk, rfl, rfl, hm0, hm1, hm⟩ := hrel
    have Hm := Lib.hid hm; clear hm
    by_cases hlt : k < xs.length
    · obtain ⟨b, off, rfl, hbw, hcells⟩ := hx (by omega)
      obtain ⟨x, hxk⟩ := get_some hlt
      have hck := hcells k x hxk
      have Hs := Lib.hid (take_snoc hxk)
      have Hx := Lib.hid hxk
      clear hcells hxk hx
      by_cases hin : 0 ≤ x ∧ x ≤ below - 1
      · have hin0 := hin.1
        have hin1 := hin.2
        have Hin := Lib.hid hin
        clear hin
        go_wp2_with (go_at_call 40; refine (within_yes _ _ _ _ Hin.out).mono ?_; rintro e w' ⟨rfl, rfl⟩)
        go_round
        case rel =>
          refine ⟨k + 1, (m + x) % below, by omega, by go_num, rfl, Int.emod_nonneg _ (by omega), Int.emod_lt_of_pos _ (by omega), ?_⟩
          rw [Hs.out, addFrom_app, Hm.out]
          simp [addFrom, Hin.out]
        case measure => simp [intOf]; omega
      · have Hin := Lib.hid hin; clear hin
        go_wp2_with (go_at_call 40; refine (within_no _ _ _ _ Hin.out).mono ?_; rintro e w' ⟨rfl, rfl⟩)
        go_ret2
        refine ⟨?_, rfl⟩
        have hd : addFrom below 0 xs = none := by
          rw [← List.take_append_drop (k + 1) xs, Hs.out, List.append_assoc, addFrom_app, Hm.out]
          simp [addFrom, Hin.out]
        rw [hd]; rfl
    · go_wp2
      go_ret2
      refine ⟨?_, rfl⟩
      have hm := Hm.out
      rw [List.take_of_length_le (by omega)] at hm
      rw [hm]; rfl
/-- witness.Combine: the value and the error. -/
def combineR (below : Int) (xs : List Int) : Int × Int :=
  if ¬ (1 ≤ below ∧ below ≤ 1000000000) then (0, 3) else if 30 < xs.length then (0, 5) else
  match addFrom below 0 xs with
  | some n => (n, 0)
  | none => (0, 2)
set_option maxHeartbeats 400000 in
theorem combine_any (below : Int) (v : Value) (xs : List Int) (w : World) (hv : Sl (.int .i64) w v xs) (hl : xs.length ≤ 140737488351232) :
    Calls Tryd.prog 16 #[.int .i64 below, v] w fun e w' => e = .returned (.tuple #[.int .i64 (combineR below xs).1, .int .i64 (combineR below xs).2]) ∧ w = w' := by
  have hv0 := hv
  obtain ⟨a, c, rfl, hcap, _⟩ := hv
  by_cases h1 : 1 ≤ below ∧ below ≤ 1000000000
  · by_cases h2 : 30 < xs.length
    · have hr : combineR below xs = (0, 5) := by simp [combineR, h1, h2]
      rw [hr]
      clear hr
      have H1 := Lib.hid h1; clear h1
      go_enter Tryd.func16, Tryd.ntmps16
      go_wp2_with (go_at_call 40; refine (within_yes _ _ _ _ H1.out).mono ?_; rintro e w' ⟨rfl, rfl⟩)
      go_ret2
      exact ⟨rfl, rfl⟩
    · have h3 := h1.1
      have h4 := h1.2
      have hr : combineR below xs = (match addFrom below 0 xs with | some n => (n, 0) | none => (0, 2)) := by simp [combineR, h1, h2]
      have Hr := Lib.hid hr; clear hr
      have H1 := Lib.hid h1; clear h1
      have H0 := Lib.hid hv0; clear hv0
      cases hA : addFrom below 0 xs with
      | some n =>
        have HA := Lib.hid hA; clear hA
        go_enter Tryd.func16, Tryd.ntmps16
        go_wp2_with (first | (go_at_call 40; refine (within_yes _ _ _ _ H1.out).mono ?_; rintro e w' ⟨rfl, rfl⟩) | (go_at_call 41; refine (add_any below _ xs _ h3 h4 H0.out hl).mono ?_; rw [HA.out]; unfold addRet; rintro e w' ⟨rfl, rfl⟩))
        go_ret2
        rw [Hr.out, HA.out]
        exact ⟨rfl, rfl⟩
      | none =>
        have HA := Lib.hid hA; clear hA
        go_enter Tryd.func16, Tryd.ntmps16
        go_wp2_with (first | (go_at_call 40; refine (within_yes _ _ _ _ H1.out).mono ?_; rintro e w' ⟨rfl, rfl⟩) | (go_at_call 41; refine (add_any below _ xs _ h3 h4 H0.out hl).mono ?_; rw [HA.out]; unfold addRet; rintro e w' ⟨rfl, rfl⟩))
        go_ret2
        rw [Hr.out, HA.out]
        exact ⟨rfl, rfl⟩
  · have hr : combineR below xs = (0, 3) := by simp only [combineR, if_pos h1]
    rw [hr]
    clear hr
    have H1 := Lib.hid h1; clear h1
    go_enter Tryd.func16, Tryd.ntmps16
    go_wp2_with (go_at_call 40; refine (within_no _ _ _ _ H1.out).mono ?_; rintro e w' ⟨rfl, rfl⟩)
    go_ret2
    exact ⟨rfl, rfl⟩
end Go.Proofs.YtcmpindjgfojaaaDoor
