/- Walks: the reference's Salt, Box, Digits, Text. -/
import Derived.Test.YtcmpindjgfojaaaDoorWitJ
import Derived.Test.YtcmpindjgfojaaaDoorLimb
namespace Go.Proofs.YtcmpindjgfojaaaDoor
open Go.RowKit

theorem rin_any (n a b : Int) (w : World) :
    Calls Tryd.prog 37 #[.int .i64 n, .int .i64 a, .int .i64 b] w fun e w' => e = .returned (.bool (decide (a ≤ n ∧ n ≤ b))) ∧ w = w' := by
  go_enter Tryd.func37, Tryd.ntmps37
  go_wp2
  · have h : a ≤ n := by assumption
    go_ret; simp [h]
  · have h : n < a := by assumption
    have h' : ¬ a ≤ n := by omega
    go_ret; simp [h']
theorem rin_yes (n a b : Int) (w : World) (h : a ≤ n ∧ n ≤ b) :
    Calls Tryd.prog 37 #[.int .i64 n, .int .i64 a, .int .i64 b] w fun e w' => e = .returned (.bool true) ∧ w = w' :=
  (rin_any n a b w).mono fun _ _ ⟨he, hw⟩ => ⟨by rw [he, decide_eq_true h], hw⟩
theorem rin_no (n a b : Int) (w : World) (h : ¬ (a ≤ n ∧ n ≤ b)) :
    Calls Tryd.prog 37 #[.int .i64 n, .int .i64 a, .int .i64 b] w fun e w' => e = .returned (.bool false) ∧ w = w' :=
  (rin_any n a b w).mono fun _ _ ⟨he, hw⟩ => ⟨by rw [he, decide_eq_false h], hw⟩

theorem saltSet_iff (c : UInt8) : saltSet.contains c = true ↔ ((97 ≤ (c.toNat : Int) ∧ (c.toNat : Int) ≤ 122) ∨ (48 ≤ (c.toNat : Int) ∧ (c.toNat : Int) ≤ 57)) := by
  have : ∀ n, n < 256 → (saltSet.contains (UInt8.ofNat n) = true ↔ ((97 ≤ (n : Int) ∧ (n : Int) ≤ 122) ∨ (48 ≤ (n : Int) ∧ (n : Int) ≤ 57))) := by decide +kernel
  have h := this c.toNat c.toNat_lt
  rwa [UInt8.ofNat_toNat] at h
theorem inSet_take {cs l : List UInt8} {k : Nat} {c : UInt8} (h : l[k]? = some c) (hc : cs.contains c = false) : inSet cs l = false := by
  unfold inSet
  rw [List.all_eq_false]
  exact ⟨c, List.mem_of_getElem? h, by simpa using hc⟩
theorem inSet_snoc {cs l : List UInt8} {k : Nat} {c : UInt8} (h : l[k]? = some c) (hc : cs.contains c = true) (hi : inSet cs (l.take k) = true) : inSet cs (l.take (k + 1)) = true := by
  rw [take_snoc h]
  unfold inSet at hi ⊢
  rw [List.all_append, hi]
  simpa using hc

set_option maxHeartbeats 1000000 in
theorem rsalt_any (s : ByteArray) (w : World) (hs : s.size ≤ 140737488351232) :
    Calls Tryd.prog 38 #[.string s] w fun e w' => e = .returned (.bool (saltB s.data.toList)) ∧ w = w' := by
  have hsz : s.data.toList.length = s.size := by simp
  by_cases h0 : s.size < 1
  · have hr : saltB s.data.toList = false := by
      have : ¬ (1 ≤ s.data.toList.length ∧ s.data.toList.length ≤ 20) := by rw [hsz]; omega
      simp only [saltB, decide_eq_false this, Bool.false_and]
    rw [hr]
    clear hr hsz
    go_enter Tryd.func38, Tryd.ntmps38
    go_wp2
    go_ret
    exact ⟨rfl, rfl⟩
  · by_cases h20 : 20 < s.size
    · have hr : saltB s.data.toList = false := by
        have : ¬ (1 ≤ s.data.toList.length ∧ s.data.toList.length ≤ 20) := by rw [hsz]; omega
        simp only [saltB, decide_eq_false this, Bool.false_and]
      rw [hr]
      clear hr hsz
      go_enter Tryd.func38, Tryd.ntmps38
      go_wp2
      go_ret
      exact ⟨rfl, rfl⟩
    · have hr : saltB s.data.toList = inSet saltSet s.data.toList := by
        have : (1 ≤ s.data.toList.length ∧ s.data.toList.length ≤ 20) := by rw [hsz]; omega
        simp only [saltB, decide_eq_true this, Bool.true_and]
      have HR := Lib.hid hr; have HZ := Lib.hid hsz
      clear hr hsz
      go_enter Tryd.func38, Tryd.ntmps38
      go_wp2
      go_loop [3] (fun i => ∃ k : Nat, k ≤ s.size ∧ i = .int .i64 k ∧ inSet saltSet (s.data.toList.take k) = true) (fun i => s.size - (intOf i).toNat)
      case atStart => exact ⟨0, Nat.zero_le _, rfl, rfl⟩
      case round =>
        obtain ⟨k, hk, rfl, hin⟩ := hrel
        by_cases hlt : k < s.size
        · have hg : s.data.toList[k]? = some s[k] := by
            rw [List.getElem?_eq_getElem (by rw [HZ.out]; exact hlt)]; rfl
          have HG := Lib.hid hg; have HI := Lib.hid hin
          clear hg hin
          by_cases hc : saltSet.contains s[k] = true
          · have HC := Lib.hid hc
            have hd := (saltSet_iff _).1 hc
            clear hc
            rcases hd with ⟨h1, h2⟩ | ⟨h1, h2⟩
            all_goals
              go_wp2
              go_round
              case rel => exact ⟨k + 1, by omega, by go_num, inSet_snoc HG.out HC.out HI.out⟩
              case measure => simp [intOf]; omega
          · have HC := Lib.hid hc
            have hd : ¬ ((97 ≤ (s[k].toNat : Int) ∧ (s[k].toNat : Int) ≤ 122) ∨ (48 ≤ (s[k].toNat : Int) ∧ (s[k].toNat : Int) ≤ 57)) := fun h => hc ((saltSet_iff _).2 h)
            have hcase : (s[k].toNat : Int) < 48 ∨ (57 < (s[k].toNat : Int) ∧ (s[k].toNat : Int) < 97) ∨ 122 < (s[k].toNat : Int) := by omega
            have HD := Lib.hid hd
            clear hc hd
            have hfin : saltB s.data.toList = false := by rw [HR.out]; exact inSet_take HG.out (by simpa using HC.out)
            have HF := Lib.hid hfin
            clear hfin
            rcases hcase with h1 | ⟨h1, h2⟩ | h1
            all_goals
              go_wp2
              go_ret
              exact ⟨ret_bool HF.out.symm, rfl⟩
        · have hfin : saltB s.data.toList = true := by
            rw [HR.out]; rw [List.take_of_length_le (by rw [HZ.out]; omega)] at hin; exact hin
          have HF := Lib.hid hfin
          clear hfin hin
          go_wp2
          go_ret
          exact ⟨ret_bool HF.out.symm, rfl⟩

set_option maxHeartbeats 400000 in
theorem rbox_any (p v : Int) (s : ByteArray) (hs : s.size ≤ 140737488351232) (w : World) :
    Calls Tryd.prog 13 #[boxV p v s] w fun e w' => e = .returned (.bool (boxB p v s.data.toList)) ∧ Below w.heap.size w w' := by
  unfold boxV
  have hb0 : Below w.heap.size w (w.alloc (Obj.cells #[Value.int IntKind.i64 p, Value.int IntKind.i64 v, Value.string s] 23)) := (Below.refl _ w).alloc (Nat.le_refl _) _
  by_cases h1 : 1 ≤ p ∧ p ≤ 30
  · by_cases h2 : 0 ≤ v ∧ v ≤ 999999999
    · have hr : boxB p v s.data.toList = saltB s.data.toList := by simp [boxB, h1, h2]
      rw [hr]
      have H1 := Lib.hid h1
      have H2 := Lib.hid h2
      clear h1 h2 hr
      go_enter Tryd.func13, Tryd.ntmps13
      go_wp2_with fail
      refine (rin_yes p 1 30 _ H1.out).mono ?_
      rintro e w' ⟨rfl, rfl⟩
      go_wp2_with fail
      refine (rin_yes v 0 999999999 _ H2.out).mono ?_
      rintro e w' ⟨rfl, rfl⟩
      go_wp2_with fail
      refine (rsalt_any s _ hs).mono ?_
      rintro e w' ⟨rfl, rfl⟩
      go_wp2
      go_ret
      exact ⟨rfl, hb0⟩
    · have hr : boxB p v s.data.toList = false := by simp only [boxB, decide_eq_false h2, Bool.and_false, Bool.false_and]
      rw [hr]
      have H1 := Lib.hid h1
      have H2 := Lib.hid h2
      clear h1 h2 hr
      go_enter Tryd.func13, Tryd.ntmps13
      go_wp2_with fail
      refine (rin_yes p 1 30 _ H1.out).mono ?_
      rintro e w' ⟨rfl, rfl⟩
      go_wp2_with fail
      refine (rin_no v 0 999999999 _ H2.out).mono ?_
      rintro e w' ⟨rfl, rfl⟩
      go_wp2
      go_ret
      exact ⟨rfl, hb0⟩
  · have hr : boxB p v s.data.toList = false := by simp only [boxB, decide_eq_false h1, Bool.false_and]
    rw [hr]
    have H1 := Lib.hid h1
    clear h1 hr
    go_enter Tryd.func13, Tryd.ntmps13
    go_wp2_with fail
    refine (rin_no p 1 30 _ H1.out).mono ?_
    rintro e w' ⟨rfl, rfl⟩
    go_wp2
    go_ret
    exact ⟨rfl, hb0⟩

theorem dec_lt {u : Nat} (h : u < 10) : Lib.decDigits u = [UInt8.ofNat (48 + u)] := by rw [Lib.decDigits, dif_pos h]
theorem dec_ge {u : Nat} (h : ¬ u < 10) : Lib.decDigits u = Lib.decDigits (u / 10) ++ Lib.decDigits (u % 10) := by
  rw [Lib.decDigits, dif_neg h, dec_lt (Nat.mod_lt _ (by decide))]
set_option maxRecDepth 100000 in
set_option maxHeartbeats 400000 in
theorem rdigits_any (k : Nat) : ∀ (u : Nat) (w : World), u ≤ k → u ≤ 9223372036854775807 →
    Calls Tryd.prog 39 #[.int .i64 u] w fun e w' => e = .returned (.string ⟨(Lib.decDigits u).toArray⟩) ∧ Below w.heap.size w w' := by
  induction k with
  | zero =>
    intro u w hk hm
    obtain rfl : u = 0 := by omega
    have hconv : (convert 40 9 (.slice (some ⟨w.heap.size, 0, none⟩) 1 1)).run Tryd.prog (w.alloc (Obj.cells #[.int .u8 48] 5)) = .ok (.string ⟨(Lib.decDigits 0).toArray⟩) (w.alloc (Obj.cells #[.int .u8 48] 5)) := by
      rw [dec_lt (by decide)]
      refine run_convert_bytes_back _ 40 9 5 ⟨w.heap.size, 0, none⟩ 1 [UInt8.ofNat (48 + 0)] Tryd.underlying40 Tryd.underlying5 Tryd.underlying9 (fun j hj => ?_)
      match j, hj with
      | 0, hj => simp [Addr.add, World.cell?_alloc_new]
    go_enter Tryd.func39, Tryd.ntmps39
    go_wp2_with fail
    go_ret
    exact ⟨rfl, (Below.refl _ _).alloc (Nat.le_refl _) _⟩
  | succ k ih =>
    intro u w hk hm
    by_cases hn : u < 10
    · have hconv : (convert 40 9 (.slice (some ⟨w.heap.size, 0, none⟩) 1 1)).run Tryd.prog (w.alloc (Obj.cells #[.int .u8 (48 + (u : Int))] 5)) = .ok (.string ⟨(Lib.decDigits u).toArray⟩) (w.alloc (Obj.cells #[.int .u8 (48 + (u : Int))] 5)) := by
        rw [dec_lt hn]
        refine run_convert_bytes_back _ 40 9 5 ⟨w.heap.size, 0, none⟩ 1 [UInt8.ofNat (48 + u)] Tryd.underlying40 Tryd.underlying5 Tryd.underlying9 (fun j hj => ?_)
        match j, hj with
        | 0, hj => simp [Addr.add, World.cell?_alloc_new]; omega
      have hwr : IntKind.u8.wrap (48 + (u : Int)) = 48 + (u : Int) := by simp only [IntKind.wrap, IntKind.signed, IntKind.bits]; simp; omega
      go_enter Tryd.func39, Tryd.ntmps39
      go_wp2_with fail
      go_ret
      exact ⟨rfl, (Below.refl _ _).alloc (Nat.le_refl _) _⟩
    · have hd : (u : Int) / 10 = ((u / 10 : Nat) : Int) := by omega
      have hr : (u : Int) % 10 = ((u % 10 : Nat) : Int) := by omega
      have HE := Lib.hid (dec_ge hn)
      have h1 := fun w => ih (u / 10) w (by omega) (by omega)
      have h2 := fun w => ih (u % 10) w (by omega) (by omega)
      have HD := Lib.hid hd; have HR := Lib.hid hr
      clear hd hr ih
      go_enter Tryd.func39, Tryd.ntmps39
      go_wp2_with fail
      rw [HD.out]
      refine (h1 _).mono ?_
      rintro e w1 ⟨rfl, hb1⟩
      go_wp2_with fail
      rw [HR.out]
      refine (h2 _).mono ?_
      rintro e w2 ⟨rfl, hb2⟩
      have l1 := Lib.itoa_length_le ((u / 10 : Nat) : Int) (by omega) (by omega)
      have l2 := Lib.itoa_length_le ((u % 10 : Nat) : Int) (by omega) (by omega)
      rw [Lib.itoa_nonneg] at l1 l2
      have hadd := fun wx => run_string_add_lists (P := Tryd.prog) wx (Lib.decDigits (u / 10)) (Lib.decDigits (u % 10)) (by omega) (by omega)
      clear l1 l2
      generalize hL : Lib.decDigits (u / 10) ++ Lib.decDigits (u % 10) = L at hadd
      have HL := Lib.hid hL
      clear hL
      go_wp2_with fail
      go_ret
      refine ⟨?_, hb1.trans (hb2.mono hb1.size)⟩
      rw [HE.out, HL.out]; rfl
theorem rnum_any (n : Int) (h0 : 0 ≤ n) (h1 : n ≤ 9223372036854775807) (w : World) :
    Calls Tryd.prog 39 #[.int .i64 n] w fun e w' => e = .returned (.string ⟨(Lib.itoa n).toArray⟩) ∧ Below w.heap.size w w' := by
  obtain ⟨u, rfl⟩ := Int.eq_ofNat_of_zero_le h0
  have : Lib.itoa (u : Int) = Lib.decDigits u := by unfold Lib.itoa; rw [if_neg (by omega)]; simp
  rw [this]
  exact rdigits_any u u w (Nat.le_refl _) (by omega)

theorem Stay0.of (w : World) (o : Obj) : Below w.heap.size w (w.alloc o) := (Below.refl _ _).alloc (Nat.le_refl _) _
set_option maxRecDepth 100000 in
set_option maxHeartbeats 1000000 in
theorem rtext_any (p v : Int) (s : ByteArray) (hp : 0 ≤ p) (hp' : p ≤ 9223372036854775807) (hv : 0 ≤ v) (hv' : v ≤ 9223372036854775807) (hs : s.size ≤ 1000) (w : World) :
    Calls Tryd.prog 14 #[boxV p v s] w fun e w' => e = .returned (.string ⟨(textL p v s.data.toList).toArray⟩) ∧ Below w.heap.size w w' := by
  unfold boxV
  obtain ⟨W0, hW0⟩ : ∃ W0, W0 = w.alloc (Obj.cells #[Value.int IntKind.i64 p, Value.int IntKind.i64 v, Value.string s] 23) := ⟨_, rfl⟩
  have hst : Below (w.heap.size + 1) W0 W0.drew := (Below.refl _ _).drew
  have hz : W0.heap.size = w.heap.size + 1 := by rw [hW0]; simp
  have hb0 : Below w.heap.size w W0 := by rw [hW0]; exact (Below.refl _ _).alloc (Nat.le_refl _) _
  have c0 : W0.cell? ⟨w.heap.size, 0, none⟩ = some (.int .i64 p) := by rw [hW0]; simp [World.cell?_alloc_new]
  have c1 : W0.cell? ⟨w.heap.size, 1, none⟩ = some (.int .i64 v) := by rw [hW0]; simp [World.cell?_alloc_new]
  have c2 : W0.cell? ⟨w.heap.size, 2, none⟩ = some (.string s) := by rw [hW0]; simp [World.cell?_alloc_new]
  have hN1 := fun w => rnum_any p hp hp' w
  have hN2 := fun w => rnum_any v hv hv' w
  have l1 := Lib.itoa_length_le p (by omega) hp'
  have l2 := Lib.itoa_length_le v (by omega) hv'
  have ls : s.data.toList.length = s.size := by simp
  have e1 := fun wx => run_string_add_lists (P := Tryd.prog) wx (Lib.itoa p) [58] (by omega) (by decide)
  have e2 := fun wx => run_string_add_lists (P := Tryd.prog) wx (Lib.itoa p ++ [58]) (Lib.itoa v) (by simp; omega) (by omega)
  have e3 := fun wx => run_string_add_lists (P := Tryd.prog) wx (Lib.itoa p ++ [58] ++ Lib.itoa v) [58] (by simp; omega) (by decide)
  have e4 := fun wx => run_string_add_lists (P := Tryd.prog) wx (Lib.itoa p ++ [58] ++ Lib.itoa v ++ [58]) s.data.toList (by simp; omega) (by omega)
  have es : (⟨s.data.toList.toArray⟩ : ByteArray) = s := by simp
  rw [es] at e4
  have e58 : (⟨([58] : List UInt8).toArray⟩ : ByteArray) = ⟨#[58]⟩ := rfl
  rw [e58] at e1 e3
  have hT : (⟨(Lib.itoa p ++ [58] ++ Lib.itoa v ++ [58] ++ s.data.toList).toArray⟩ : ByteArray) = ⟨(textL p v s.data.toList).toArray⟩ := rfl
  generalize hS6 : (⟨(Lib.itoa p ++ [58] ++ Lib.itoa v ++ [58] ++ s.data.toList).toArray⟩ : ByteArray) = S6 at hT e4
  generalize hS5 : (⟨(Lib.itoa p ++ [58] ++ Lib.itoa v ++ [58]).toArray⟩ : ByteArray) = S5 at e3 e4
  generalize hS4 : (⟨(Lib.itoa p ++ [58] ++ Lib.itoa v).toArray⟩ : ByteArray) = S4 at e2 e3
  generalize hS3 : (⟨(Lib.itoa v).toArray⟩ : ByteArray) = S3 at e2 hN2
  generalize hS2 : (⟨(Lib.itoa p ++ [58]).toArray⟩ : ByteArray) = S2 at e1 e2
  generalize hS1 : (⟨(Lib.itoa p).toArray⟩ : ByteArray) = S1 at e1 hN1
  have HW := Lib.hid hW0; have C0 := Lib.hid c0; have C1 := Lib.hid c1; have C2 := Lib.hid c2; have HT := Lib.hid hT; have HZ := Lib.hid hz; have HN1 := Lib.hid hN1; have HN2 := Lib.hid hN2
  clear hS6 hS5 hS4 hS3 hS2 hS1 hT e58 es ls l1 l2 c0 c1 c2 hW0 hz hN1 hN2
  have hlt : w.heap.size < w.heap.size + 1 := Nat.lt_succ_self _
  go_enter Tryd.func14, Tryd.ntmps14
  go_wp2_with fail
  rw [← HW.out]
  go_region_held3 (fun w' => w'.cell? ⟨w.heap.size, 0, none⟩ = some (.int .i64 p) ∧ w'.cell? ⟨w.heap.size, 1, none⟩ = some (.int .i64 v) ∧ w'.cell? ⟨w.heap.size, 2, none⟩ = some (.string s))
    (exact ⟨(hst.cell hlt).trans C0.out, (hst.cell hlt).trans C1.out, (hst.cell hlt).trans C2.out⟩)
    (first
    | (go_at_call 39; (first | (with_reducible refine (HN1.out _).mono ?_) | (with_reducible refine (HN2.out _).mono ?_)); rintro e w1 ⟨rfl, hb1⟩; have hzz := Nat.le_trans (Nat.le_of_eq HZ.out.symm) hst.size; replace hst := hst.trans (hb1.mono hzz); clear hb1 hzz))
  go_wp2
  go_ret
  refine ⟨?_, hb0.trans (hst.mono (Nat.le_succ _))⟩
  rw [HT.out]; rfl
end Go.Proofs.YtcmpindjgfojaaaDoor
