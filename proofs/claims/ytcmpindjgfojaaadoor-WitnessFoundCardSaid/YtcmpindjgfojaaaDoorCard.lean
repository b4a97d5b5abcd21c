/- What all cards share. -/
import Derived.Test.YtcmpindjgfojaaaDoorRows
import Derived.Test.YtcmpindjgfojaaaDoorCards
import Derived.Test.YtcmpindjgfojaaaDoorTie
import Derived.Test.YtcmpindjgfojaaaDoorWitL
import Derived.ProofKit
import Derived.OpenShut
import Derived.LaidMore
import Derived.Lay
import Derived.Carry
import Derived.SevenTiedAt
import Derived.Stop.Joined
namespace Go.Proofs.YtcmpindjgfojaaaDoor
open Go.ChangeShapes Go.WideShapes Go.ChangeAt Go.RowKit

theorem own : ownKnob Tryd.prog.godebug = none := by kernel_rfl
theorem laidOut : laidOutB Tryd.prog = true := by kernel_rfl

/-- The list that the rows of this seat bear. -/
def laid5 : List (String × DataW Unit) := [("math/bits.deBruijn32tab", Rows.laid_math_bits_deBruijn32tab), ("math/bits.deBruijn64tab", Rows.laid_math_bits_deBruijn64tab), ("internal/strconv.uint64pow10", Rows.laid_internal_strconv_uint64pow10), ("unicode/utf8.acceptRanges", Rows.laid_unicode_utf8_acceptRanges), ("unicode/utf8.first", Rows.laid_unicode_utf8_first)]
theorem tail_laid {P : Program} {x : String × DataW Unit} {rest : List (String × DataW Unit)} {W : World} (h : laidMet P (x :: rest) W) : laidMet P rest W := by
  obtain ⟨ps, ⟨g, t, cs, fuel, p, q, h1, h2, h3, h4, h5, rfl⟩, hn, hp⟩ := h
  exact ⟨q, h5, (List.nodup_append.1 hn).2.1, fun b off hm => hp b off (List.mem_append_right _ hm)⟩
theorem gPow : Tryd.prog.globalNamed "internal/strconv.uint64pow10" = some 3 := by kernel_rfl
theorem gDeB : Tryd.prog.globalNamed "math/bits.deBruijn64tab" = some 7 := by kernel_rfl
theorem tab_keep {P : Program} {W W' : World} {B g : Nat} {n : String} {k : IntKind} {zs : List Int} (hg : P.globalNamed n = some g) (hB : g < B) (hb : Below B W W') (h : Lib.TabIs P W n k zs) : Lib.TabIs P W' n k zs := by
  unfold Lib.TabIs World.var? at h ⊢
  rw [hg] at h ⊢
  simp only [Option.bind_some] at h ⊢
  rw [hb.block g hB]
  exact h
theorem ok_of_tabs {W : World} (h1 : Lib.TabIs Tryd.prog W "internal/strconv.uint64pow10" .u64 Lib.pow10Tab) (h2 : Lib.TabIs Tryd.prog W "math/bits.deBruijn64tab" .u8 (List.map Int.ofNat Lib.deBruijn64tab)) (hz : 8 ≤ W.heap.size) : Ok W :=
  ⟨fun W' hb => ⟨tab_keep gPow (by decide) hb h1, tab_keep gDeB (by decide) hb h2⟩, hz⟩
theorem ok_of_laid {W : World} (h0 : laidMetH Tryd.prog laid5 W) : Ok W := by
  rw [MakeChecks.laidMetH_plain _ _ _ (by kernel_rfl)] at h0
  have h2 := tail_laid h0
  have h3 := tail_laid h2
  have e2 : (Rows.laid_math_bits_deBruijn64tab : DataW Unit) = Lib.tabData .u8 (List.map Int.ofNat Lib.deBruijn64tab) := by kernel_rfl
  have e3 : (Rows.laid_internal_strconv_uint64pow10 : DataW Unit) = Lib.tabData .u64 Lib.pow10Tab := by kernel_rfl
  rw [e2] at h2
  rw [e3] at h3
  have t2 := Lib.tabIs_of_head (t := 181) (e := 5) (n := 64) gDeB (by kernel_rfl) (by kernel_rfl) (by kernel_rfl) (by kernel_rfl) (by kernel_rfl) h2
  have t3 := Lib.tabIs_of_head (t := 165) (e := 77) (n := 20) gPow (by kernel_rfl) (by kernel_rfl) (by kernel_rfl) (by kernel_rfl) (by kernel_rfl) h3
  refine ok_of_tabs t3 t2 ?_
  have := World.var?_cell gDeB t2 0
  have hlt : 7 < W.heap.size := by
    rcases Nat.lt_or_ge 7 W.heap.size with h' | h'
    · exact h'
    · unfold Lib.TabIs World.var? at t2
      rw [gDeB] at t2
      simp only [Option.bind_some] at t2
      rw [Array.getElem?_eq_none h'] at t2; cases t2
  omega
theorem lt_of_cell {W : World} {b o : Nat} {v : Value} (h : W.cell? ⟨b, o, none⟩ = some v) : b < W.heap.size := by
  rcases Nat.lt_or_ge b W.heap.size with h' | h'
  · exact h'
  · simp [World.cell?, Array.getElem?_eq_none h'] at h
/-- A slice of numbers that came in. -/
theorem sl_of_trod {P : Program} {H : Type} {enc : TypeId × Value → H} {t e : TypeId} {k : IntKind} {W : World} {base : Nat} {v : Value} {d : DataW H} {ps : List MemPlace} (ht : P.underlying t = some (.slice e)) (he : P.underlying e = some (.int k)) (hc : P.cellsOf e = 1)
    (hv : Value.okWide P W .any base t v) (h : DataW.Trod enc P W 0 (fun _ => true) true t v d ps) :
    ∃ zs : List Int, Sl (Value.int k) W v zs ∧ (∀ z ∈ zs, (Lit.int k z).wf = true) ∧ (v = .slice none 0 0 ∨ ∃ ad n c, v = .slice (some ad) n c) := by
  obtain ⟨a0, len, cap, rfl⟩ := okWide_slice ht hv
  obtain ⟨fuel, hf⟩ := h
  rcases open_ints ht he hc hf with ⟨hcs, hx⟩ | ⟨a, len', cap', zs, hcs, _, hl, hm, hz, hx, hcell, hwz⟩
  · simp [Value.cells] at hcs
    obtain ⟨rfl, rfl, rfl⟩ := hcs
    exact ⟨[], Sl.nil, by simp, .inl rfl⟩
  · simp [Value.cells] at hcs
    obtain ⟨rfl, rfl, rfl⟩ := hcs
    simp only [if_true] at hz
    have hlt : (zs.take len).length = len := by simp; omega
    refine ⟨zs.take len, ⟨some a, cap, by rw [hlt], by rw [hlt]; exact hl, fun h0 => ?_⟩, fun z hz' => hwz z (List.mem_of_mem_take hz'), .inr ⟨_, _, _, rfl⟩⟩
    obtain ⟨b, off, spot⟩ := a
    have hspot : spot = none := by simpa [Addr.add] using World.cell?_spot (hcell 0 (by omega))
    subst hspot
    have c0 := hcell 0 (by omega)
    refine ⟨b, off, rfl, lt_of_cell (by simpa [Addr.add] using c0), fun j x hj => ?_⟩
    have hjl := (List.getElem?_eq_some_iff.1 hj).1
    have hj2 : zs[j]? = some x := by rw [List.getElem?_take_of_lt (by omega)] at hj; exact hj
    have := hcell j (List.getElem?_eq_some_iff.1 hj2).1
    rw [Addr.add_lit] at this
    simpa [List.getD, hj2] using this
end Go.Proofs.YtcmpindjgfojaaaDoor
