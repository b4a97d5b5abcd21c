/- Walks: ParseUint of sixteen hexadecimal digits. -/
import Derived.Test.YtcmpindjgfojaaaDoorHexP
namespace Go.Proofs.YtcmpindjgfojaaaDoor
open Go.RowKit

theorem lower_hex (c : UInt8) (h1 : 97 ≤ c.toNat) (h2 : c.toNat ≤ 102) (w : World) :
    Calls Tryd.prog 90 #[.int .u8 c.toNat] w fun e w' => e = .returned (.int .u8 c.toNat) ∧ w = w' := by
  have hor : bits BinOp.or IntKind.u8 (c.toNat : Int) 32 = (c.toNat : Int) := by
    have : ∀ n : Nat, n < 256 → 97 ≤ n → n ≤ 102 → bits BinOp.or IntKind.u8 (n : Int) 32 = (n : Int) := by decide +kernel
    exact this c.toNat c.toNat_lt h1 h2
  go_enter Tryd.func90, Tryd.ntmps90
  go_wp2
  go_ret
  exact ⟨rfl, rfl⟩

set_option maxRecDepth 100000 in
set_option maxHeartbeats 2000000 in
theorem parse16_in (s : ByteArray) (h : hashB s.data.toList = true) (w : World) :
    Calls Tryd.prog 70 #[.string s, .int .i64 16, .int .i64 64] w fun e w' => e = .returned (.tuple #[.int .u64 (hexV s.data.toList), .nilIface]) ∧ Below w.heap.size w w' := by
  have h' := h
  unfold hashB at h
  rw [Bool.and_eq_true, decide_eq_true_eq] at h
  have hz : s.size = 16 := by simpa using h.1
  have hin : ∀ k c, s.data.toList[k]? = some c → hexSet.contains c = true := fun k c hc => by
    have := h.2
    unfold inSet at this
    exact List.all_eq_true.1 this c (List.mem_of_getElem? hc)
  have hbd : ∀ k, k ≤ 15 → hexV (s.data.toList.take k) < 1152921504606846976 := fun k hk => by
    have := hexV_lt k (s.data.toList.take k) (by simp; omega) (by
      unfold inSet; rw [List.all_eq_true]
      intro x hx
      obtain ⟨j, hj⟩ := List.getElem?_of_mem (List.mem_of_mem_take hx)
      exact hin j x hj)
    exact Nat.lt_of_lt_of_le this (Nat.le_trans (Nat.pow_le_pow_right (by decide) hk) (by decide))
  obtain ⟨cap, w1, hrun, hb, hsz, hc, hcap⟩ := run_sb w 9 40 5 s Tryd.underlying9 Tryd.underlying40 Tryd.underlying5
  have hne : s.toList.isEmpty = false := by
    cases hl : s.toList with
    | nil =>
      have : s.toList.length = s.size := by rw [ByteArray.toList_eq]; simp
      rw [hl, hz] at this
      simp at this
    | cons c r => rfl
  have hw1 : IntKind.u64.wrap 18446744073709551616 = 0 := by decide
  obtain ⟨M, hM⟩ : ∃ M : Int, M = 18446744073709551615 := ⟨_, rfl⟩
  obtain ⟨Q, hQ⟩ : ∃ Q : Int, Q = 1152921504606846976 := ⟨_, rfl⟩
  have hw2 : IntKind.u64.wrap (-1) = M := by rw [hM]; decide
  have HM := Lib.hid hM; have HQ := Lib.hid hQ
  clear hM
  have HIN := Lib.hid hin; have HBD := Lib.hid hbd; have HC := Lib.hid hc
  clear hin hbd hc h h'
  go_enter Tryd.func70, Tryd.ntmps70
  go_wp2
  rw [← hQ]
  clear hQ
  go_loopw [12, 13, 101] (fun un n i wr => ∃ k : Nat, k ≤ 16 ∧ un = .bool false ∧ i = .int .i64 k ∧ n = .int .u64 (hexV (s.data.toList.take k)) ∧ w1 = wr) (fun _ _ i _ => 16 - (intOf i).toNat)
  case atStart => exact ⟨0, Nat.zero_le _, rfl, rfl, rfl, rfl⟩
  case round =>
    obtain ⟨k, hk, rfl, rfl, rfl, rfl⟩ := hrel
    by_cases hlt : k < 16
    · have hg : s.data.toList[k]? = some s[k] := by
        rw [List.getElem?_eq_getElem (by simp; omega)]; rfl
      have hck := HC.out k (by omega)
      have hgd : s.data.toList.getD k 0 = s[k] := by simp [List.getD, hg]
      rw [hgd] at hck
      have hmem := HIN.out k _ hg
      have hnb := HBD.out k (by omega)
      have htk := hexV_take hg
      have hcase := (hexSet_iff _).1 hmem
      have HT := Lib.hid htk
      clear hg hgd hmem htk
      generalize s[k] = c at hck hcase HT
      generalize hexV (s.data.toList.take k) = n at hnb HT ⊢
      have hnQ : (n : Int) < Q := by rw [HQ.out]; omega
      have hm1 : IntKind.u64.wrap ((n : Int) * 16) = (n : Int) * 16 := by rw [IntKind.wrap_u64]; omega
      have HNB := Lib.hid hnb
      clear hnb
      rcases hcase with ⟨h1, h2⟩ | ⟨h1, h2⟩
      · have hd : hdig c = c.toNat - 48 := by unfold hdig; rw [if_pos h2]
        have g1 : (48 : Int) ≤ (c.toNat : Int) := by omega
        have g2 : (c.toNat : Int) ≤ 57 := by omega
        have g3 : ((c.toNat : Int) == 95) = false := by simp; omega
        have g4 : IntKind.u8.wrap ((c.toNat : Int) - 48) = (c.toNat : Int) - 48 := by simp only [IntKind.wrap, IntKind.signed, IntKind.bits]; simp; omega
        have hm2 : IntKind.u64.wrap ((n : Int) * 16 + ((c.toNat : Int) - 48)) = (n : Int) * 16 + ((c.toNat : Int) - 48) := by have := HNB.out; rw [IntKind.wrap_u64]; omega
        have hm3 : (n : Int) * 16 + ((c.toNat : Int) - 48) ≤ M := by have := HNB.out; rw [HM.out]; omega
        have HD := Lib.hid hd; clear hd
        go_wp2
        go_roundw
        case rel => exact ⟨k + 1, by omega, rfl, by go_num, by rw [HT.out, HD.out]; exact congrArg (Value.int .u64) (by omega), trivial⟩
        case measure => simp [intOf]; omega
      · have hd : hdig c = c.toNat - 87 := by unfold hdig; rw [if_neg (by omega)]
        have g1 : (57 : Int) < (c.toNat : Int) := by omega
        have g2 : (c.toNat : Int) ≤ 102 := by omega
        have g3 : ((c.toNat : Int) == 95) = false := by simp; omega
        have g5 : (97 : Int) ≤ (c.toNat : Int) := by omega
        have HL := Lib.hid (lower_hex c h1 h2)
        have g6 : IntKind.u8.wrap (IntKind.u8.wrap ((c.toNat : Int) - 97) + 10) = (c.toNat : Int) - 87 := by simp only [IntKind.wrap, IntKind.signed, IntKind.bits]; simp; omega
        have g7 : IntKind.u8.wrap ((c.toNat : Int) - 97 + 10) = (c.toNat : Int) - 87 := by simp only [IntKind.wrap, IntKind.signed, IntKind.bits]; simp; omega
        have g8 : (c.toNat : Int) - 97 + 10 = (c.toNat : Int) - 87 := by omega
        have hm2 : IntKind.u64.wrap ((n : Int) * 16 + ((c.toNat : Int) - 87)) = (n : Int) * 16 + ((c.toNat : Int) - 87) := by have := HNB.out; rw [IntKind.wrap_u64]; omega
        have hm3 : (n : Int) * 16 + ((c.toNat : Int) - 87) ≤ M := by have := HNB.out; rw [HM.out]; omega
        have HD := Lib.hid hd; clear hd
        go_wp2_with (go_at_call 90; refine (HL.out _).mono ?_; rintro e w' ⟨rfl, rfl⟩)
        go_roundw
        case rel => exact ⟨k + 1, by omega, rfl, by go_num, by rw [HT.out, HD.out]; exact congrArg (Value.int .u64) (by omega), trivial⟩
        case measure => simp [intOf]; omega
    · obtain rfl : k = 16 := by omega
      have htk : s.data.toList.take 16 = s.data.toList := List.take_of_length_le (by simp; omega)
      rw [htk]
      clear htk
      go_wp2
      go_ret2
      exact ⟨rfl, hb⟩
theorem parse16_any (s : ByteArray) (h : hashB s.data.toList = true) (w : World) :
    Calls Tryd.prog 58 #[.string s, .int .i64 16, .int .i64 64] w fun e w' => e = .returned (.tuple #[.int .u64 (hexV s.data.toList), .nilIface]) ∧ Below w.heap.size w w' := by
  have hp := parse16_in s h w
  have HP := Lib.hid hp
  clear hp h
  go_enter Tryd.func58, Tryd.ntmps58
  go_wp2_with fail
  refine HP.out.mono ?_
  rintro e w1 ⟨rfl, hb1⟩
  go_wp2
  go_ret2
  exact ⟨rfl, hb1⟩
end Go.Proofs.YtcmpindjgfojaaaDoor
