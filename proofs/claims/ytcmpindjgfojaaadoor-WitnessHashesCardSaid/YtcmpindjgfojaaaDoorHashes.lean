/- Walks: WitnessHashes. -/
import Derived.Test.YtcmpindjgfojaaaDoorRefH
import Derived.Test.YtcmpindjgfojaaaDoorRefS
import Derived.Test.YtcmpindjgfojaaaDoorWitL
namespace Go.Proofs.YtcmpindjgfojaaaDoor
open Go.RowKit

/-- What stays while a box lies in memory. -/
structure BoxS (w : World) (W0 : World) (p v : Int) (t : ByteArray) (wk : World) : Prop where
  bel : Below w.heap.size w wk
  ok : Ok wk
  x0 : wk.cell? ⟨w.heap.size, 0, none⟩ = some (.int .i64 p)
  x1 : wk.cell? ⟨w.heap.size, 1, none⟩ = some (.int .i64 v)
  x2 : wk.cell? ⟨w.heap.size, 2, none⟩ = some (.string t)
  lt : w.heap.size < wk.heap.size
theorem BoxS.step {w W0 : World} {p v : Int} {t : ByteArray} {wk w' : World} (h : BoxS w W0 p v t wk) (hb : Below wk.heap.size wk w') : BoxS w W0 p v t w' :=
  ⟨h.bel.trans (hb.mono h.bel.size), h.ok.below hb, (hb.cell (p := ⟨w.heap.size, 0, none⟩) h.lt).trans h.x0, (hb.cell (p := ⟨w.heap.size, 1, none⟩) h.lt).trans h.x1, (hb.cell (p := ⟨w.heap.size, 2, none⟩) h.lt).trans h.x2, Nat.lt_of_lt_of_le h.lt hb.size⟩
theorem BoxS.of {w : World} (hw : Ok w) (p v : Int) (t : ByteArray) (W0 : World) (h : W0 = w.alloc (Obj.cells #[Value.int IntKind.i64 p, Value.int IntKind.i64 v, Value.string t] 23)) : BoxS w W0 p v t W0 := by
  have hb0 : Below w.heap.size w W0 := by rw [h]; exact (Below.refl _ _).alloc (Nat.le_refl _) _
  refine ⟨hb0, hw.below hb0, ?_, ?_, ?_, by rw [h]; simp⟩ <;> (rw [h]; simp [World.cell?_alloc_new])

set_option maxRecDepth 100000 in
set_option maxHeartbeats 4000000 in
theorem hashes_long (s : ByteArray) (p v : Int) (t : ByteArray) (w : World) (hw : Ok w) (hs : s.size ≤ 9223372036854775807) (h : 1100 < s.size ∨ (s.size ≤ 1100 ∧ 100 < t.size)) (ht : t.size ≤ 9223372036854775807) :
    Calls Tryd.prog 3 #[.string s, boxV p v t] w fun e w' => e = .returned (.bool true) ∧ Below w.heap.size w w' := by
  unfold boxV
  obtain ⟨W0, hW0⟩ : ∃ W0, W0 = w.alloc (Obj.cells #[Value.int IntKind.i64 p, Value.int IntKind.i64 v, Value.string t] 23) := ⟨_, rfl⟩
  have k0 := BoxS.of hw p v t W0 hW0
  have c2 := k0.x2
  have HW0 := Lib.hid hW0
  clear hW0
  rcases h with h | ⟨h1, h2⟩
  all_goals
    go_enter Tryd.func3, Tryd.ntmps3
    go_wp2_with fail
    (try rw [← HW0.out])
    go_wp2_with fail
    refine (known_any _ k0.ok).mono ?_
    rintro e w9 ⟨rfl, hb9⟩
    go_wp2
    go_ret
    exact ⟨rfl, (k0.step hb9).bel⟩

set_option maxRecDepth 100000 in
set_option maxHeartbeats 4000000 in
theorem hashes_mid (s : ByteArray) (p v : Int) (t : ByteArray) (w : World) (hw : Ok w) (hs : s.size ≤ 1100) (ht : t.size ≤ 100) :
    Calls Tryd.prog 3 #[.string s, boxV p v t] w fun e w' => e = .returned (.bool true) ∧ Below w.heap.size w w' := by
  have hS := fun W hW => seal2_any p v t (by omega) W hW
  have hB := rbox_any p v t (by omega)
  have hT := fun (h : boxB p v t.data.toList = true) W => rtext_any p v t (boxB_bd h).1 (boxB_bd h).2.1 (boxB_bd h).2.2.1 (boxB_bd h).2.2.2.1 (by omega) W
  have hL : boxB p v t.data.toList = true → (textL p v t.data.toList).length ≤ 1000000 := fun h => by
    obtain ⟨b1, b2, b3, b4, b5⟩ := boxB_bd h
    have l1 := Lib.itoa_length_le p (by omega) b2
    have l2 := Lib.itoa_length_le v (by omega) b4
    unfold textL
    simp
    simp at b5
    omega
  unfold boxV at hS hB hT ⊢
  obtain ⟨W0, hW0⟩ : ∃ W0, W0 = w.alloc (Obj.cells #[Value.int IntKind.i64 p, Value.int IntKind.i64 v, Value.string t] 23) := ⟨_, rfl⟩
  have k0 := BoxS.of hw p v t W0 hW0
  have c2 := k0.x2
  have HW0 := Lib.hid hW0
  clear hW0
  cases hbx : boxB p v t.data.toList with
  | true =>
    have hsr : sealR p v t.data.toList = (hashL (textL p v t.data.toList), 0) := by simp [sealR, hbx]
    simp only [hsr, hbx] at hS hB
    have hT := hT hbx
    have hR := fun W => rhash_any ⟨(textL p v t.data.toList).toArray⟩ W (by have := hL hbx; show (textL p v t.data.toList).toArray.size ≤ _; simp only [List.size_toArray]; omega)
    simp only [List.toList_toArray] at hR
    generalize hg1 : (⟨(hashL (textL p v t.data.toList)).toArray⟩ : ByteArray) = G at hS hR
    generalize hg2 : (⟨(textL p v t.data.toList).toArray⟩ : ByteArray) = TX at hT hR
    have HSS := Lib.hid hS; have HB := Lib.hid hB; have HT := Lib.hid hT; have HR := Lib.hid hR
    clear hS hB hT hR hg1 hg2 hsr hbx hL
    by_cases hl : 1000 < s.size
    · go_enter Tryd.func3, Tryd.ntmps3
      go_wp2_with fail
      (try rw [← HW0.out])
      go_wp2_with fail
      refine (hash_long s hl (by omega) _).mono ?_
      rintro e w' ⟨rfl, rfl⟩
      have c0 := k0.x0; have c1 := k0.x1
      go_wp2_with fail
      refine (HSS.out _ k0.ok).mono ?_
      rintro e w1 ⟨rfl, hb1⟩
      replace k0 := k0.step hb1
      replace c0 := k0.x0; replace c1 := k0.x1; replace c2 := k0.x2
      go_wp2_with fail
      refine (HB.out _).mono ?_
      rintro e w2 ⟨rfl, hb2⟩
      replace k0 := k0.step hb2
      replace c0 := k0.x0; replace c1 := k0.x1; replace c2 := k0.x2
      go_wp2_with fail
      refine (HT.out _).mono ?_
      rintro e w3 ⟨rfl, hb3⟩
      replace k0 := k0.step hb3
      go_wp2_with fail
      refine (HR.out _).mono ?_
      rintro e w4 ⟨rfl, hb4⟩
      replace k0 := k0.step hb4
      go_wp2_with fail
      refine (known_any _ k0.ok).mono ?_
      rintro e w9 ⟨rfl, hb9⟩
      go_wp2
      go_ret
      exact ⟨rfl, (k0.step hb9).bel⟩
    · have hR2 := fun W => rhash_any s W (by omega)
      have hH := fun W hW => hash_any s (by omega) W hW
      generalize hg3 : (⟨(hashL s.data.toList).toArray⟩ : ByteArray) = GS at hR2 hH
      have HR2 := Lib.hid hR2; have HH := Lib.hid hH
      clear hR2 hH hg3
      go_enter Tryd.func3, Tryd.ntmps3
      go_wp2_with fail
      (try rw [← HW0.out])
      go_wp2_with fail
      refine (HH.out _ k0.ok).mono ?_
      rintro e w0 ⟨rfl, hb0⟩
      replace k0 := k0.step hb0
      have c0 := k0.x0; have c1 := k0.x1; replace c2 := k0.x2
      go_wp2_with fail
      refine (HSS.out _ k0.ok).mono ?_
      rintro e w1 ⟨rfl, hb1⟩
      replace k0 := k0.step hb1
      replace c0 := k0.x0; replace c1 := k0.x1; replace c2 := k0.x2
      go_wp2_with fail
      refine (HR2.out _).mono ?_
      rintro e w5 ⟨rfl, hb5⟩
      replace k0 := k0.step hb5
      replace c0 := k0.x0; replace c1 := k0.x1; replace c2 := k0.x2
      go_wp2_with fail
      refine (HB.out _).mono ?_
      rintro e w2 ⟨rfl, hb2⟩
      replace k0 := k0.step hb2
      replace c0 := k0.x0; replace c1 := k0.x1; replace c2 := k0.x2
      go_wp2_with fail
      refine (HT.out _).mono ?_
      rintro e w3 ⟨rfl, hb3⟩
      replace k0 := k0.step hb3
      go_wp2_with fail
      refine (HR.out _).mono ?_
      rintro e w4 ⟨rfl, hb4⟩
      replace k0 := k0.step hb4
      go_wp2_with fail
      refine (known_any _ k0.ok).mono ?_
      rintro e w9 ⟨rfl, hb9⟩
      go_wp2
      go_ret
      exact ⟨rfl, (k0.step hb9).bel⟩
  | false =>
    have hsr : sealR p v t.data.toList = ([], 2) := by simp [sealR, hbx]
    simp only [hsr, hbx] at hS hB
    have HSS := Lib.hid hS; have HB := Lib.hid hB
    clear hS hB hT hsr hbx hL
    by_cases hl : 1000 < s.size
    · go_enter Tryd.func3, Tryd.ntmps3
      go_wp2_with fail
      (try rw [← HW0.out])
      go_wp2_with fail
      refine (hash_long s hl (by omega) _).mono ?_
      rintro e w' ⟨rfl, rfl⟩
      have c0 := k0.x0; have c1 := k0.x1
      go_wp2_with fail
      refine (HSS.out _ k0.ok).mono ?_
      rintro e w1 ⟨rfl, hb1⟩
      replace k0 := k0.step hb1
      replace c0 := k0.x0; replace c1 := k0.x1; replace c2 := k0.x2
      go_wp2_with fail
      refine (HB.out _).mono ?_
      rintro e w2 ⟨rfl, hb2⟩
      replace k0 := k0.step hb2
      go_wp2_with fail
      refine (known_any _ k0.ok).mono ?_
      rintro e w9 ⟨rfl, hb9⟩
      go_wp2
      go_ret
      exact ⟨rfl, (k0.step hb9).bel⟩
    · have hR2 := fun W => rhash_any s W (by omega)
      have hH := fun W hW => hash_any s (by omega) W hW
      generalize hg3 : (⟨(hashL s.data.toList).toArray⟩ : ByteArray) = GS at hR2 hH
      have HR2 := Lib.hid hR2; have HH := Lib.hid hH
      clear hR2 hH hg3
      go_enter Tryd.func3, Tryd.ntmps3
      go_wp2_with fail
      (try rw [← HW0.out])
      go_wp2_with fail
      refine (HH.out _ k0.ok).mono ?_
      rintro e w0 ⟨rfl, hb0⟩
      replace k0 := k0.step hb0
      have c0 := k0.x0; have c1 := k0.x1; replace c2 := k0.x2
      go_wp2_with fail
      refine (HSS.out _ k0.ok).mono ?_
      rintro e w1 ⟨rfl, hb1⟩
      replace k0 := k0.step hb1
      replace c0 := k0.x0; replace c1 := k0.x1; replace c2 := k0.x2
      go_wp2_with fail
      refine (HR2.out _).mono ?_
      rintro e w5 ⟨rfl, hb5⟩
      replace k0 := k0.step hb5
      replace c0 := k0.x0; replace c1 := k0.x1; replace c2 := k0.x2
      go_wp2_with fail
      refine (HB.out _).mono ?_
      rintro e w2 ⟨rfl, hb2⟩
      replace k0 := k0.step hb2
      go_wp2_with fail
      refine (known_any _ k0.ok).mono ?_
      rintro e w9 ⟨rfl, hb9⟩
      go_wp2
      go_ret
      exact ⟨rfl, (k0.step hb9).bel⟩
theorem hashes_any (s : ByteArray) (p v : Int) (t : ByteArray) (w : World) (hw : Ok w) (hs : s.size ≤ maxLen) (ht : t.size ≤ maxLen) :
    Calls Tryd.prog 3 #[.string s, .agg #[.int .i64 p, .int .i64 v, .string t]] w fun e w' => e = .returned (.bool true) ∧ Below w.heap.size w w' := by
  unfold maxLen at hs ht
  by_cases h1 : 1100 < s.size
  · exact hashes_long s p v t w hw (by omega) (.inl h1) (by omega)
  · by_cases h2 : 100 < t.size
    · exact hashes_long s p v t w hw (by omega) (.inr ⟨by omega, h2⟩) (by omega)
    · exact hashes_mid s p v t w hw (by omega) (by omega)
end Go.Proofs.YtcmpindjgfojaaaDoor
