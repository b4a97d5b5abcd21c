/- Walks: WitnessShares. -/
import Derived.Test.YtcmpindjgfojaaaDoorRefB
namespace Go.Proofs.YtcmpindjgfojaaaDoor
open Go.RowKit

set_option maxRecDepth 100000 in
set_option maxHeartbeats 2000000 in
theorem shares_any (value below : Int) (v : Value) (xs : List Int) (w : World) (hw : Ok w) (hv : Sl (.int .i64) w v xs) (hn : v = .slice none 0 0 ∨ ∃ ad n c, v = .slice (some ad) n c) :
    Calls Tryd.prog 4 #[.int .i64 value, .int .i64 below, v] w fun e w' => e = .returned (.bool true) ∧ Below w.heap.size w w' := by
  have hv0 := hv
  obtain ⟨a, c, hvs, hcap, hcell⟩ := hv
  have hlen : (Value.slice a xs.length c) = v := hvs.symm
  by_cases h5 : 40 < xs.length
  · subst hvs
    clear hv0 hn hcell
    go_enter Tryd.func4, Tryd.ntmps4
    go_wp2_with (go_at_call 9; refine (known_any _ hw).mono ?_; rintro e w1 ⟨rfl, hb1⟩)
    go_ret
    exact ⟨rfl, hb1⟩
  · subst hvs
    have HV := Lib.hid hv0; have HN := Lib.hid hn
    clear hv0 hn hcell hlen
    go_enter Tryd.func4, Tryd.ntmps4
    go_wp2_with (at_builtin; refine wpList_append_in _ rfl _ _ rfl w.heap.size w.heap.size rfl ?own (.slice a xs.length c) xs rfl ?sl HN.out ?hl ?hB ?_)
    case own => exact own_empty (Nat.le_refl _) (World.alloc_heap_new w _)
    case sl => exact HV.out.below ((Below.refl _ _).alloc (Nat.le_refl _) _)
    case hl => omega
    case hB => simp
    intro v' W7 hown7 hgrow g7 c7 hv7 _
    subst hv7
    have hb7 : Below w.heap.size w W7 := ((Below.refl _ _).alloc (Nat.le_refl _) _).grown hgrow (by rw [alloc_sz]; omega) (fun q e => by simp at e; omega)
    have S7 := Sl.ofOwn hown7
    have H7 := Lib.hid S7
    clear hown7 hgrow S7
    go_wp2_with fail
    refine (split_any value below _ xs _ H7.out (by omega)).mono ?_
    rintro e W8 ⟨v8, rfl, hown8, hb8⟩
    simp only
    have S8 := Sl.ofOwn hown8
    have H78 := Lib.hid (H7.out.below hb8)
    go_wp2_with fail
    refine (combine_any below _ xs _ H78.out (by omega)).mono ?_
    rintro e w' ⟨rfl, rfl⟩
    have hb08 : Below w.heap.size w W8 := hb7.trans (hb8.mono hb7.size)
    go_wp2_with fail
    refine (rsplit_any value below _ xs _ (HV.out.below hb08) HN.out (by omega)).mono ?_
    rintro e W9 ⟨v9, rfl, hown9, hb9⟩
    simp only
    have hb09 : Below w.heap.size w W9 := hb08.trans (hb9.mono hb08.size)
    have H79 := Lib.hid (H78.out.below hb9)
    have H89 := Lib.hid (S8.below hb9)
    have H9 := Lib.hid (Sl.ofOwn hown9)
    clear S8 hown8 hown9
    go_wp2_with fail
    refine (rcombine_any below _ xs _ (HV.out.below hb09)).mono ?_
    rintro e w' ⟨rfl, rfl⟩
    go_wp2_with fail
    refine (same_any _ _ xs _ H79.out (HV.out.below hb09) (by omega)).mono ?_
    rintro e w' ⟨rfl, q, rfl⟩
    have hq : Below W9.heap.size W9 (W9.drewN q) := below_drewN (Below.refl _ _) q
    go_wp2_with fail
    refine (same_any _ _ _ _ (H89.out.below hq) (H9.out.below hq) ?hl9).mono ?_
    case hl9 => have := splitR_len value below xs; omega
    rintro e w' ⟨rfl, q2, rfl⟩
    have hq2 : Below w.heap.size w (W9.drewN (q + q2)) := below_drewN hb09 (q + q2)
    go_wp2_with fail
    refine (known_any _ (hw.below hq2)).mono ?_
    rintro e w9 ⟨rfl, hb10⟩
    go_wp2
    go_ret
    exact ⟨rfl, hq2.trans (hb10.mono hq2.size)⟩
end Go.Proofs.YtcmpindjgfojaaaDoor
