/- astragallaw11.WitnessFound returns true and leaves its argument as it was, for every box, by its value, the number of its salt and its person, and every list of salts. Conditions: the listed tables and variables of Go's library read as the program's text lays them (tied, one of them pinned); each argument weighs at most the form's reach. -/
import Derived.Test.YtcmpindjgfojaaaDoorCard
import Derived.Test.YtcmpindjgfojaaaDoorCardS
import Derived.Test.YtcmpindjgfojaaaDoorFound
namespace Go.Proofs.YtcmpindjgfojaaaDoor
open Go.ChangeShapes Go.WideShapes Go.ChangeAt Go.RowKit

set_option maxRecDepth 100000 in
theorem found_lifted (os : Os) (started : os.Started) (H : Type) (enc : TypeId × Value → H) :
    ReturnsInHanded {} Tryd.checked os 8 .any (fun w args => (Rows.witnessFoundSpec.pre enc Tryd.prog Tryd.f8 Rows.witnessFoundRow.domain false w args ∧ laidMetH Tryd.prog laid7 w) ∧ sizedMet enc Tryd.prog Tryd.f8 (OpenSpec.ofChange Rows.witnessFoundSpec) false w args)
      (Rows.witnessFoundSpec.post enc Tryd.prog Tryd.f8 false true false false) := by
  refine returnsInHanded_of_change_and (C := Tryd.checked) (X := fun w _ => laidMetH Tryd.prog laid7 w) (fun _ _ _ hh h => h.of_heap hh) own started (by kernel_rfl) Tryd.func8
    (ChangeSpec.witness_shaped (enc := enc) (C := Tryd.checked) (os := os) (X := fun w _ => laidMetH Tryd.prog laid7 w) false (World.laidAll Tryd.prog os laid7) #[.agg #[.int .u8 0, .int .u8 0, .int .u8 0, .slice none 0 0]] 8 (World.laidAll_os _ _ _)
      (World.shaped_of_ZipB (by kernel_rfl) (by kernel_rfl)) (by kernel_rfl) (by kernel_rfl) (by kernel_rfl)
      (by rw [MakeChecks.laidMetH_plain _ _ _ (by kernel_rfl)]; exact laidMet_laidAll _ (by kernel_rfl) (by kernel_rfl))) ?_
  intro W base args ds gs before hval0 hW _ _ hL _
  have hval : ∀ (j : Nat) t v, Tryd.f8.params[j]? = some t → args[j]? = some v → Value.okWide Tryd.prog W .any base t v := hval0
  have hW' := hW
  obtain ⟨p, q, hA0, hV, rfl, hfz, hnd⟩ := hW
  have hA : DataW.TrodAll enc Tryd.prog W 0 (fun _ => true) true Tryd.f8.params.toList args.toList ds p := hA0
  rw [Tryd.params8] at hA hval
  obtain ⟨v0, d0, rfl, rfl, h0⟩ := trodAll_one hA
  obtain ⟨rfl, rfl⟩ := trodVars_none hV
  clear hA0 hval0
  simp only [List.append_nil] at hW'
  have hlt0 : ∀ x ∈ p, x.block < W.heap.size := fun x hx => by simpa using hW'.lt x hx
  have k0 := h0
  obtain ⟨w0, w1, w2, w3, y0, y1, y2, y3, n, rfl, rfl, _, g0, g1, g2, g3⟩ := Joins.open_agg4 Tryd.underlying73 (by kernel_rfl) (by kernel_rfl) (hval 0 _ v0 rfl rfl) h0
  obtain ⟨a, rfl, ha⟩ := u8_of_trodF Tryd.underlying5 g0
  obtain ⟨b, rfl, hb⟩ := u8_of_trodF Tryd.underlying5 g1
  obtain ⟨c, rfl, hc⟩ := u8_of_trodF Tryd.underlying5 g2
  obtain ⟨zs, hsl, hwz, _⟩ := sl_of_trodF Tryd.underlying40 Tryd.underlying5 (by kernel_rfl) g3
  refine (found_any zs a b c w3 W (ok_of_laid7 hL) hsl (fun x hx => u8_wf (hwz x hx)) ha hb hc).mono fun e W' ⟨he, hw⟩ => ?_
  subst he
  refine ⟨_, rfl, _, _, _, [], p, [], hW', ?_, ?_, ?_, hw.frame _, fun h => by cases h⟩
  · exact trodAll_mk1 (shut_bool Tryd.underlying4 true)
  · exact trodAll_mk1 (Below.trod laidOut (by kernel_rfl) (of_decide_eq_true (by kernel_rfl)) k0 hw hlt0)
  · rfl
theorem found_holds : Rows.WitnessFoundSaid :=
  OpenClaim.holds_of_wide 8 Tryd.f8 rfl rfl rfl rfl rfl rfl rfl ⟨rfl, rfl, rfl, rfl, rfl⟩ rfl rfl rfl rfl rfl (by kernel_rfl) Tryd.func8 (by kernel_rfl)
    (of_decide_eq_true (by kernel_rfl)) (by unfold Func.isWrapper; rw [if_neg (by decide +kernel)]; exact ⟨rfl, rfl⟩)
    (fun os started H enc _ => found_lifted os started H enc)
theorem found_card : Rows.WitnessFoundCardSaid :=
  Claim7.holds_tied_plain_at .later [] [.data, .data, .data, .data, .sentinel, .sentinel, .pinned] true (true, "bfcf5a73292f4b18789a66c1678b24aaa0c1b5fc5c6b53ac8110b34f08088051") true found_holds (fun _ h => by cases h) (by kernel_rfl) (fun _ h => by cases h) witnessFound_row_tie rfl ⟨rfl, rfl⟩ (by kernel_rfl) rfl
    (fun f fn hf hfn => by
      obtain rfl : f = 8 := Option.some.inj ((show Tryd.prog.funcNamed "astragal/astragallaw11.WitnessFound" = some 8 by kernel_rfl).symm.trans hf) |>.symm
      obtain rfl : fn = Tryd.f8 := (Option.some.inj (Tryd.func8.symm.trans hfn)).symm
      exact ⟨by kernel_rfl, fun j t ht => by
        rw [Tryd.params8] at ht
        have hm : t ∈ [73] := by simpa using Array.mem_of_getElem? ht
        have hall : ([73].all fun u => !Tryd.prog.wantsStandIn u) = true := by kernel_rfl
        exact (show Tryd.prog.wantsStandIn t = false by simpa using List.all_eq_true.1 hall t hm)⟩)
    (by kernel_rfl)
#print axioms found_card
end Go.Proofs.YtcmpindjgfojaaaDoor
