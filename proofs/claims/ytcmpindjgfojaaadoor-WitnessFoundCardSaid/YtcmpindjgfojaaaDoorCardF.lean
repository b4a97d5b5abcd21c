/- What the cards of statements over structs share: fields that came in. -/
import Derived.Test.YtcmpindjgfojaaaDoorCard
import Derived.Lib.SmallJoins
namespace Go.Proofs.YtcmpindjgfojaaaDoor
open Go.ChangeShapes Go.WideShapes Go.ChangeAt Go.RowKit

theorem sl_of_trodF {P : Program} {H : Type} {enc : TypeId × Value → H} {t e : TypeId} {k : IntKind} {W : World} {v : Value} {n : Nat} {y : DataW H × List MemPlace} (ht : P.underlying t = some (.slice e)) (he : P.underlying e = some (.int k)) (hc : P.cellsOf e = 1)
    (h : DataW.trod enc P W 0 (fun _ => true) true n t [v] = some y) :
    ∃ zs : List Int, Sl (Value.int k) W v zs ∧ (∀ z ∈ zs, (Lit.int k z).wf = true) ∧ (v = .slice none 0 0 ∨ ∃ ad n c, v = .slice (some ad) n c) := by
  rcases open_ints ht he hc h with ⟨hcs, hx⟩ | ⟨a, len', cap', zs, hcs, _, hl, hm, hz, hx, hcell, hwz⟩
  · simp at hcs
    subst hcs
    exact ⟨[], Sl.nil, by simp, .inl rfl⟩
  · simp at hcs
    subst hcs
    simp only [if_true] at hz
    have hlt : (zs.take len').length = len' := by simp; omega
    refine ⟨zs.take len', ⟨some a, cap', by rw [hlt], by rw [hlt]; exact hl, fun h0 => ?_⟩, fun z hz' => hwz z (List.mem_of_mem_take hz'), .inr ⟨_, _, _, rfl⟩⟩
    obtain ⟨b, off, spot⟩ := a
    have hspot : spot = none := by simpa [Addr.add] using World.cell?_spot (hcell 0 (by omega))
    subst hspot
    have c0 := hcell 0 (by omega)
    refine ⟨b, off, rfl, lt_of_cell (by simpa [Addr.add] using c0), fun j x hj => ?_⟩
    have hjl := (List.getElem?_eq_some_iff.1 hj).1
    have hj2 : zs[j]? = some x := by rw [List.getElem?_take_of_lt (by omega)] at hj; exact hj
    have := hcell j (List.getElem?_eq_some_iff.1 hj2).1
    rw [Addr.add_lit] at this
    simpa [List.getD, hj2] using this
theorem u8_wf {z : Int} (h : (Lit.int .u8 z).wf = true) : 0 ≤ z ∧ z ≤ 255 := by
  simp [Lit.wf, show IntKind.u8.min = 0 from rfl, show IntKind.u8.max = 255 from rfl] at h
  omega
theorem i64_wf {z : Int} (h : (Lit.int .i64 z).wf = true) : -9223372036854775808 ≤ z ∧ z ≤ 9223372036854775807 := by
  simp [Lit.wf, show IntKind.i64.min = -9223372036854775808 from rfl, show IntKind.i64.max = 9223372036854775807 from rfl] at h
  omega
theorem u8_of_trodF {P : Program} {H : Type} {enc : TypeId × Value → H} {t : TypeId} {W : World} {v : Value} {n : Nat} {y : DataW H × List MemPlace} (ht : P.underlying t = some (.int .u8))
    (h : DataW.trod enc P W 0 (fun _ => true) true n t [v] = some y) : ∃ a : Nat, v = .int .u8 a ∧ a < 256 := by
  obtain ⟨z, hz, _, hw⟩ := DataW.trod_int ht h
  simp at hz
  obtain ⟨h0, h1⟩ := u8_wf hw
  obtain ⟨a, rfl⟩ := Int.eq_ofNat_of_zero_le h0
  exact ⟨a, hz, by omega⟩
theorem int_of_trodF {P : Program} {H : Type} {enc : TypeId × Value → H} {t : TypeId} {k : IntKind} {W : World} {v : Value} {n : Nat} {y : DataW H × List MemPlace} (ht : P.underlying t = some (.int k))
    (h : DataW.trod enc P W 0 (fun _ => true) true n t [v] = some y) : ∃ a : Int, v = .int k a := by
  obtain ⟨z, hz, _, hw⟩ := DataW.trod_int ht h
  simp at hz
  exact ⟨z, hz⟩
theorem str_of_trodF {P : Program} {H : Type} {enc : TypeId × Value → H} {t : TypeId} {W : World} {v : Value} {n : Nat} {y : DataW H × List MemPlace} (ht : P.underlying t = some .string)
    (h : DataW.trod enc P W 0 (fun _ => true) true n t [v] = some y) : ∃ s : ByteArray, v = .string s ∧ s.size ≤ maxLen := by
  obtain ⟨s, hs, _, hm⟩ := DataW.trod_string ht h
  simp at hs
  exact ⟨s, hs, hm⟩
end Go.Proofs.YtcmpindjgfojaaaDoor
