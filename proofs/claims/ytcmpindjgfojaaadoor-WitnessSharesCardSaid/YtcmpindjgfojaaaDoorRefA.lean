/- Walks: the reference's in, Combine, Split; the laws' same. -/
import Derived.Test.YtcmpindjgfojaaaDoorMissP
import Derived.Test.YtcmpindjgfojaaaDoorWitL
import Derived.Deep.QuietTactic
import Derived.BigQuiet
namespace Go.Proofs.YtcmpindjgfojaaaDoor
open Go.RowKit

theorem in_any (n a b : Int) (w : World) :
    Calls Tryd.prog 37 #[.int .i64 n, .int .i64 a, .int .i64 b] w fun e w' => e = .returned (.bool (decide (a ≤ n ∧ n ≤ b))) ∧ w = w' := by
  go_enter Tryd.func37, Tryd.ntmps37
  go_wp2
  · have h : a ≤ n := by assumption
    go_ret; simp [h]
  · have h : n < a := by assumption
    have h' : ¬ a ≤ n := by omega
    go_ret; simp [h']
theorem in_yes (n a b : Int) (w : World) (h : a ≤ n ∧ n ≤ b) :
    Calls Tryd.prog 37 #[.int .i64 n, .int .i64 a, .int .i64 b] w fun e w' => e = .returned (.bool true) ∧ w = w' :=
  (in_any n a b w).mono fun _ _ ⟨he, hw⟩ => ⟨by rw [he, decide_eq_true h], hw⟩
theorem in_no (n a b : Int) (w : World) (h : ¬ (a ≤ n ∧ n ≤ b)) :
    Calls Tryd.prog 37 #[.int .i64 n, .int .i64 a, .int .i64 b] w fun e w' => e = .returned (.bool false) ∧ w = w' :=
  (in_any n a b w).mono fun _ _ ⟨he, hw⟩ => ⟨by rw [he, decide_eq_false h], hw⟩

set_option maxRecDepth 100000 in
set_option maxHeartbeats 1000000 in
theorem rcombine_any (below : Int) (v : Value) (xs : List Int) (w : World) (hv : Sl (.int .i64) w v xs) :
    Calls Tryd.prog 18 #[.int .i64 below, v] w fun e w' => e = .returned (.tuple #[.int .i64 (combineR below xs).1, .int .i64 (combineR below xs).2]) ∧ w = w' := by
  obtain ⟨a, c, rfl, hcap, hx⟩ := hv
  by_cases h1 : 1 ≤ below ∧ below ≤ 1000000000
  · by_cases h2 : 30 < xs.length
    · have hr : combineR below xs = (0, 5) := by simp [combineR, h1, h2]
      rw [hr]
      clear hr
      have H1 := Lib.hid h1; clear h1
      go_enter Tryd.func18, Tryd.ntmps18
      go_wp2_with fail
      refine (in_yes _ _ _ _ H1.out).mono ?_
      rintro e w' ⟨rfl, rfl⟩
      go_wp2
      go_ret2
      exact ⟨rfl, rfl⟩
    · have h3 := h1.1
      have h4 := h1.2
      have hr1 : ∀ n, addFrom below 0 xs = some n → combineR below xs = (n, 0) := fun n hn => by unfold combineR; rw [if_neg (by simp [h1]), if_neg h2, hn]
      have hr2 : addFrom below 0 xs = none → combineR below xs = (0, 2) := fun hn => by unfold combineR; rw [if_neg (by simp [h1]), if_neg h2, hn]
      have Hr1 := Lib.hid hr1; have Hr2 := Lib.hid hr2; clear hr1 hr2
      have H1 := Lib.hid h1; clear h1
      go_enter Tryd.func18, Tryd.ntmps18
      go_wp2_with fail
      refine (in_yes _ _ _ _ H1.out).mono ?_
      rintro e w' ⟨rfl, rfl⟩
      go_wp2
      go_loop [6, 7] (fun n i => ∃ (k : Nat) (m : Int), k ≤ xs.length ∧ i = .int .i64 k ∧ n = .int .i64 m ∧ 0 ≤ m ∧ m < below ∧ addFrom below 0 (xs.take k) = some m) (fun _ i => xs.length - (intOf i).toNat)
      case atStart => exact ⟨0, 0, Nat.zero_le _, rfl, rfl, by omega, by omega, rfl⟩
      case round =>
        obtain ⟨k, m, hk, rfl, rfl, hm0, hm1, hm⟩ := hrel
        have Hm := Lib.hid hm; clear hm
        by_cases hlt : k < xs.length
        · obtain ⟨b, off, rfl, hbw, hcells⟩ := hx (by omega)
          obtain ⟨x, hxk⟩ := get_some hlt
          have hck := hcells k x hxk
          have Hs := Lib.hid (take_snoc hxk)
          clear hcells hxk hx
          by_cases hin : 0 ≤ x ∧ x ≤ below - 1
          · have hin0 := hin.1
            have hin1 := hin.2
            have Hin := Lib.hid hin
            clear hin
            go_wp2_with fail
            refine (in_yes _ _ _ _ Hin.out).mono ?_
            rintro e w' ⟨rfl, rfl⟩
            go_wp2
            go_round
            case rel =>
              refine ⟨k + 1, (m + x) % below, by omega, by go_num, rfl, Int.emod_nonneg _ (by omega), Int.emod_lt_of_pos _ (by omega), ?_⟩
              rw [Hs.out, addFrom_app, Hm.out]
              simp [addFrom, Hin.out]
            case measure => simp [intOf]; omega
          · have Hin := Lib.hid hin; clear hin
            go_wp2_with fail
            refine (in_no _ _ _ _ Hin.out).mono ?_
            rintro e w' ⟨rfl, rfl⟩
            go_wp2
            go_ret2
            refine ⟨?_, rfl⟩
            have hd : addFrom below 0 xs = none := by
              rw [← List.take_append_drop (k + 1) xs, Hs.out, List.append_assoc, addFrom_app, Hm.out]
              simp [addFrom, Hin.out]
            rw [Hr2.out hd]; rfl
        · go_wp2
          go_ret2
          refine ⟨?_, rfl⟩
          have hm := Hm.out
          rw [List.take_of_length_le (by omega)] at hm
          rw [Hr1.out _ hm]; rfl
  · have hr : combineR below xs = (0, 3) := by simp only [combineR, if_pos h1]
    rw [hr]
    clear hr
    have H1 := Lib.hid h1; clear h1
    go_enter Tryd.func18, Tryd.ntmps18
    go_wp2_with fail
    refine (in_no _ _ _ _ H1.out).mono ?_
    rintro e w' ⟨rfl, rfl⟩
    go_wp2
    go_ret2
    exact ⟨rfl, rfl⟩

set_option maxHeartbeats 1000000 in
theorem same_any (v u : Value) (xs : List Int) (w : World) (hv : Sl (.int .i64) w v xs) (hu : Sl (.int .i64) w u xs) (hl : xs.length ≤ 1000000) :
    Calls Tryd.prog 19 #[v, u] w fun e w' => e = .returned (.bool true) ∧ ∃ q, w' = w.drewN q := by
  obtain ⟨a, c, rfl, hcap, hx⟩ := hv
  obtain ⟨a', c', rfl, hcap', hx'⟩ := hu
  go_enter Tryd.func19, Tryd.ntmps19
  go_wp2
  go_loopw [5] (fun i wr => ∃ k : Nat, k ≤ xs.length ∧ i = .int .i64 k ∧ ∃ q, wr = w.drewN q) (fun i _ => xs.length - (intOf i).toNat)
  case atStart => exact ⟨0, Nat.zero_le _, rfl, 0, rfl⟩
  case round =>
    obtain ⟨k, hk, rfl, q, rfl⟩ := hrel
    by_cases hlt : k < xs.length
    · obtain ⟨b, off, rfl, hbw, hcells⟩ := hx (by omega)
      obtain ⟨b', off', rfl, hbw', hcells'⟩ := hx' (by omega)
      obtain ⟨x, hxk⟩ := get_some hlt
      have h1 : w.cell? ⟨b, off + k, none⟩ = some (.int .i64 x) := hcells k x hxk
      have h2 : w.cell? ⟨b', off' + k, none⟩ = some (.int .i64 x) := hcells' k x hxk
      clear hcells hcells' hxk hx hx'
      go_wp2
      go_quiet (fail)
      go_wp2
      go_roundw
      case rel => exact ⟨k + 1, by omega, by simp, q + nq, by simp⟩
      case measure => simp [intOf]; omega
    · go_wp2
      go_ret
      exact ⟨rfl, q, rfl⟩
end Go.Proofs.YtcmpindjgfojaaaDoor
