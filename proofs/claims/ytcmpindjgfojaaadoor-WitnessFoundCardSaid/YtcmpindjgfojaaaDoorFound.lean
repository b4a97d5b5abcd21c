/- Walks: WitnessFound. -/
import Derived.Test.YtcmpindjgfojaaaDoorFoundP
import Derived.Test.YtcmpindjgfojaaaDoorAppG
import Derived.Test.YtcmpindjgfojaaaDoorDrawn
import Derived.Deep.RegionLaw
namespace Go.Proofs.YtcmpindjgfojaaaDoor
open Go.RowKit

def sbOf (x : Int) : ByteArray := ⟨(saltL x.toNat).toArray⟩
theorem sbOf_ok {x : Int} (h : 0 ≤ x ∧ x ≤ 255) : saltB (sbOf x).data.toList = true := by
  have := saltL_ok (n := x.toNat) (by omega)
  simpa [sbOf] using this
theorem sbOf_size (x : Int) : (sbOf x).size = 2 := rfl
theorem salted_int {x : Int} (h : 0 ≤ x ∧ x ≤ 255) (w : World) :
    Calls Tryd.prog 24 #[.int .u8 x] w fun e w' => e = .returned (.string (sbOf x)) ∧ Below w.heap.size w w' := by
  obtain ⟨n, rfl⟩ := Int.eq_ofNat_of_zero_le h.1
  exact salted_any n (by omega) w

theorem box_cells {W : World} {b : Nat} {x y z : Value} {t : TypeId} {fz : Nat × Nat} (h : W.heap[b]? = some (.cells #[x, y, z] t fz)) : W.cell? ⟨b, 0, none⟩ = some x ∧ W.cell? ⟨b, 1, none⟩ = some y ∧ W.cell? ⟨b, 2, none⟩ = some z :=
  ⟨cell_of_heap h, cell_of_heap h, cell_of_heap h⟩
def hasS (s : ByteArray) (l : List ByteArray) : Bool := l.any fun y => y.toList == s.toList
theorem Found.b1 (w : World) : Below w.heap.size w (w.alloc (Obj.cells #[] 9)).drew := ((Below.refl _ _).alloc (Nat.le_refl _) _).drew
theorem Found.b2 (w : World) : Below w.heap.size w ((w.alloc (Obj.cells #[] 9)).alloc (Obj.cells #[.int .i64 0, .int .i64 0, .string ⟨#[]⟩] 23)).drew := (((Below.refl _ _).alloc (Nat.le_refl _) _).alloc (by simp) _).drew
theorem Found.b3 (w : World) : Below w.heap.size w ((w.alloc (Obj.cells #[.int .i64 0, .int .i64 0, .string ⟨#[]⟩] 23)).alloc (Obj.cells #[] 9)).drew := (((Below.refl _ _).alloc (Nat.le_refl _) _).alloc (by simp) _).drew
theorem Found.own2 (w : World) : ((w.alloc (Obj.cells #[] 9)).alloc (Obj.cells #[.int .i64 0, .int .i64 0, .string ⟨#[]⟩] 23)).drew.ownsRow w.heap.size 9 1 (.slice (some ⟨w.heap.size, 0, none⟩) 0 0) 0 [] :=
  own_new (Nat.le_refl _) ((Below.heap_alloc (w.alloc (Obj.cells #[] 9)) _ w.heap.size (by simp)).trans (World.alloc_heap_new w _))
theorem Found.own3 (w : World) : ((w.alloc (Obj.cells #[.int .i64 0, .int .i64 0, .string ⟨#[]⟩] 23)).alloc (Obj.cells #[] 9)).drew.ownsRow w.heap.size 9 1 (.slice (some ⟨w.heap.size + 1, 0, none⟩) 0 0) 0 [] := by
  refine own_new (Nat.le_succ _) ?_
  have := World.alloc_heap_new (w.alloc (Obj.cells #[.int .i64 0, .int .i64 0, .string ⟨#[]⟩] 23)) (Obj.cells #[] 9)
  rw [alloc_size1] at this
  exact this
theorem Found.blk2 (w : World) : ((w.alloc (Obj.cells #[] 9)).alloc (Obj.cells #[.int .i64 0, .int .i64 0, .string ⟨#[]⟩] 23)).drew.heap[w.heap.size + 1]? = some (.cells #[.int .i64 0, .int .i64 0, .string ⟨#[]⟩] 23 (0, 0)) := by
  have := World.alloc_heap_new (w.alloc (Obj.cells #[] 9)) (Obj.cells #[.int .i64 0, .int .i64 0, .string ⟨#[]⟩] 23)
  rw [alloc_size1] at this
  exact this
theorem Found.blk3 (w : World) : ((w.alloc (Obj.cells #[.int .i64 0, .int .i64 0, .string ⟨#[]⟩] 23)).alloc (Obj.cells #[] 9)).drew.heap[w.heap.size]? = some (.cells #[.int .i64 0, .int .i64 0, .string ⟨#[]⟩] 23 (0, 0)) :=
  (Below.heap_alloc (w.alloc (Obj.cells #[.int .i64 0, .int .i64 0, .string ⟨#[]⟩] 23)) _ w.heap.size (by simp)).trans (World.alloc_heap_new w _)

set_option maxRecDepth 100000 in
set_option maxHeartbeats 4000000 in
theorem found_any (xs : List Int) (vv aa pp : Nat) (v : Value) (w : World) (hw : Ok w) (hv : Sl (.int .u8) w v xs) (hx : ∀ x ∈ xs, 0 ≤ x ∧ x ≤ 255) (hv1 : vv < 256) (ha1 : aa < 256) (hp1 : pp < 256) :
    Calls Tryd.prog 8 #[.agg #[.int .u8 vv, .int .u8 aa, .int .u8 pp, v]] w fun e w' => e = .returned (.bool true) ∧ Below w.heap.size w w' := by
  obtain ⟨a, c, rfl, hcap, hcell⟩ := hv
  obtain ⟨Wb, hWb⟩ : ∃ Wb, Wb = w.alloc (Obj.cells #[.int .u8 vv, .int .u8 aa, .int .u8 pp, .slice a xs.length c] 73) := ⟨_, rfl⟩
  have hbb : Below w.heap.size w Wb := by rw [hWb]; exact (Below.refl _ _).alloc (Nat.le_refl _) _
  have c0 : Wb.cell? ⟨w.heap.size, 0, none⟩ = some (.int .u8 vv) := by rw [hWb]; simp [World.cell?_alloc_new]
  have c1 : Wb.cell? ⟨w.heap.size, 1, none⟩ = some (.int .u8 aa) := by rw [hWb]; simp [World.cell?_alloc_new]
  have c2 : Wb.cell? ⟨w.heap.size, 2, none⟩ = some (.int .u8 pp) := by rw [hWb]; simp [World.cell?_alloc_new]
  have c3 : Wb.cell? ⟨w.heap.size, 3, none⟩ = some (.slice a xs.length c) := by rw [hWb]; simp [World.cell?_alloc_new]
  have HWb := Lib.hid hWb
  clear hWb
  have hok := hw.below hbb
  by_cases h5 : xs.length < 1 ∨ 8 < xs.length
  · have hfin : ∀ q, Below w.heap.size w (Wb.drewN q) := fun q => below_drewN hbb q
    rcases h5 with h5 | h5
    all_goals
      go_enter Tryd.func8, Tryd.ntmps8
      go_wp2
      rw [← HWb.out]
      go_quiet (fail)
      go_wp2_with fail
      refine (known_any _ (hw.below (hfin _))).mono ?_
      rintro e w9 ⟨rfl, hb9⟩
      go_wp2
      go_ret
      exact ⟨rfl, (hfin _).trans (hb9.mono (hfin _).size)⟩
  · have hl1 : 1 ≤ xs.length := by omega
    have hl2 : xs.length ≤ 8 := by omega
    have hn0 : 0 ≤ (pp : Int) % 30 := Int.emod_nonneg _ (by omega)
    have hn1 : (pp : Int) % 30 < 30 := Int.emod_lt_of_pos _ (by omega)
    have hm0 : 0 ≤ (vv : Int) % 100 := Int.emod_nonneg _ (by omega)
    have hm1 : (vv : Int) % 100 < 100 := Int.emod_lt_of_pos _ (by omega)
    have hk0 : 0 ≤ (aa : Int) % (xs.length : Int) := Int.emod_nonneg _ (by omega)
    have hk1 : (aa : Int) % (xs.length : Int) < (xs.length : Int) := Int.emod_lt_of_pos _ (by omega)
    obtain ⟨P, hP⟩ : ∃ P : Int, P = 1 + (pp : Int) % 30 := ⟨_, rfl⟩
    obtain ⟨V, hV⟩ := Int.eq_ofNat_of_zero_le hm0
    obtain ⟨K, hK⟩ := Int.eq_ofNat_of_zero_le hk0
    have hPb : 1 ≤ P ∧ P ≤ 30 := by omega
    have hVb : V < 100 := by omega
    have hKb : K < xs.length := by omega
    obtain ⟨i0, hi, hz0, hz1, hz2⟩ := info_parts infoStr
    have HC := Lib.hid hcell; have HX := Lib.hid hx; have HP := Lib.hid hP; have HV := Lib.hid hV; have HK := Lib.hid hK; have HPb := Lib.hid hPb
    clear hcell hx hP hV hK hn0 hn1 hm0 hm1 hk0 hk1 h5
    go_enter Tryd.func8, Tryd.ntmps8
    go_wp2
    rw [← HWb.out]
    go_quiet (fail)
    go_wp2
    obtain ⟨W1, hW1⟩ : ∃ W1, W1 = (Wb.alloc (Obj.cells #[] 9)).drewN nq := ⟨_, rfl⟩
    have hb1 : Below w.heap.size w W1 := by rw [hW1]; exact below_drewN (hbb.alloc hbb.size _) nq
    have ho1 : W1.ownsRow Wb.heap.size 9 1 (.slice (some ⟨Wb.heap.size, 0, none⟩) 0 0) 0 [] := by rw [hW1]; exact own_new (Nat.le_refl _) (World.alloc_heap_new Wb _)
    have hz1W : Wb.heap.size ≤ W1.heap.size := by rw [hW1]; simp
    have hwb := hbb.size
    first
    | rw [← hW1]
    | (have hW1' : W1 = (Wb.drewN nq).alloc (Obj.cells #[] 9) := hW1
       rw [← hW1'])
    generalize Wb.heap.size = N at ho1 hz1W hwb ⊢
    clear hW1 c0 c1 c2 c3 HWb hok hbb
    go_loopw [7, 8] (fun t i wr => ∃ (k g cap : Nat), k ≤ xs.length ∧ i = .int .i64 k ∧ t = .slice (some ⟨g, 0, none⟩) k cap ∧ wr.ownsRow N 9 1 t k ((xs.take k).map fun x => .string (sbOf x)) ∧ Below w.heap.size w wr ∧ N ≤ wr.heap.size) (fun _ i _ => xs.length - (intOf i).toNat)
    case atStart => exact ⟨0, N, 0, Nat.zero_le _, rfl, rfl, ho1, hb1, hz1W⟩
    case round =>
      clear ho1 hb1 hz1W
      obtain ⟨k, g, cap, hk, rfl, rfl, hown, hbr, hzr⟩ := hrel
      by_cases hlt : k < xs.length
      · obtain ⟨b0, off, rfl, hbw0, hcells⟩ := HC.out (by omega)
        obtain ⟨x, hxk⟩ := get_some hlt
        have hck : wr.cell? ⟨b0, off + k, none⟩ = some (.int .u8 x) := (hbr.cell (p := ⟨b0, off + k, none⟩) hbw0).trans (hcells k x hxk)
        have HS := Lib.hid (take_snoc hxk)
        have HSal := Lib.hid (salted_int (HX.out x (List.mem_of_getElem? hxk)))
        have HO := Lib.hid hown; have HBR := Lib.hid hbr
        clear hcells hxk hown hbr
        generalize hsb : sbOf x = sb at HSal
        have HSB := Lib.hid hsb
        clear hsb
        go_wp2_with fail
        refine (HSal.out _).mono ?_
        rintro e w2 ⟨rfl, hb2⟩
        have hz2 := hb2.size
        go_wp2_with (at_builtin; refine wpList_append_own_at _ rfl _ _ _ rfl N 9 i0 (.string ⟨#[]⟩) 1 16 Tryd.underlying67 hi hz0 hz1 ‹i0.bytes = 16› rfl Nat.one_pos (.slice (some ⟨g, 0, none⟩) k cap) k ((xs.take k).map fun x => .string (sbOf x)) rfl ?own1 ⟨w2.heap.size, 0, none⟩ 1 1 [.string sb] rfl rfl ?hnews1 ?h11 ?h631 ?hb1 ?base1 ?_)
        case own1 => exact (own_below HO.out hb2).alloc _
        (try (case hnews1 => exact cell_one_new _ _ _))
        case h11 => first | (intro u hu; simp at hu; subst hu; rfl) | rfl
        case h631 => simp [maxLen]; omega
        case hb1 => omega
        case base1 => first | omega | (rw [alloc_size1]; omega)
        intro v5 W5 hown5 hgrow5 _ _
        obtain ⟨g5, c5, rfl⟩ := ownsRow_succ hown5
        have hgl := (HO.out).lt g rfl
        have hbr5 : Below w.heap.size w W5 := (((HBR.out).trans (hb2.mono (HBR.out).size)).alloc (by have := (HBR.out).size; omega) _).grown hgrow5 (by have := (HBR.out).size; rw [alloc_size1]; omega) (fun q e => by simp [Value.ownBlock] at e; omega)
        have hz5 : N ≤ W5.heap.size := by have := hgrow5.size; rw [alloc_size1] at this; omega
        go_wp2
        go_roundw
        case rel =>
          refine ⟨k + 1, g5, c5, by omega, by simp, rfl, ?_, hbr5, hz5⟩
          rw [HS.out]
          simpa [HSB.out] using hown5
        case measure => simp [intOf]; omega
      · obtain rfl : k = xs.length := by omega
        rw [List.take_length] at hown
        obtain ⟨LS, hLS⟩ : ∃ LS : List ByteArray, LS = xs.map sbOf := ⟨_, rfl⟩
        have hLl : LS.length = xs.length := by rw [hLS]; simp
        have hmap : (xs.map fun x => Value.string (sbOf x)) = LS.map Value.string := by rw [hLS, List.map_map]; rfl
        rw [hmap, ← hLl] at hown
        have hsl : Sl Value.string wr (.slice (some ⟨g, 0, none⟩) LS.length cap) LS := Sl.ofOwn hown
        have hLok : ∀ y ∈ LS, saltB y.data.toList = true ∧ y.size = 2 := by
          intro y hy
          rw [hLS] at hy
          obtain ⟨x, hx, rfl⟩ := List.mem_map.1 hy
          exact ⟨sbOf_ok (HX.out x hx), rfl⟩
        obtain ⟨s0, hs0⟩ := get_some (xs := LS) (k := K) (by omega)
        have hgw : g < wr.heap.size := (hown.lt g rfl).2
        have hc0 : wr.cell? ⟨g, K, none⟩ = some (.string s0) := by
          have := hown.cellAt K (by omega)
          simpa [hs0] using this
        have hs0m := List.mem_of_getElem? hs0
        have hfound := guess_found (p := P) (val := V) (s0 := s0) (xs := LS) HPb.out hVb hs0m (by omega) (fun y hy => (hLok y hy).1)
        obtain ⟨u, s, hgr, hsm, hu, hse⟩ := hfound
        have hs0z := (hLok s0 hs0m).2
        have hsz := (hLok s hsm).2
        have hbox : sealR P V s0.data.toList = (hashL (textL P V s0.data.toList), 0) := by
          have := HPb.out
          unfold sealR boxB
          rw [(hLok s0 hs0m).1, if_pos (by simp; omega)]
        have hHs := hashL_ok (textL P V s0.data.toList)
        have hsize : (⟨(hashL (textL P V s0.data.toList)).toArray⟩ : ByteArray).size = 16 := by
          unfold hashB at hHs
          rw [Bool.and_eq_true, decide_eq_true_eq] at hHs
          show (hashL (textL P V s0.data.toList)).toArray.size = 16
          simpa using hHs.1
        have hS1 := fun W hW => seal2_any P V s0 (by omega) W hW
        have hS2 := fun W hW => seal2_any P u s (by omega) W hW
        rw [hbox] at hS1
        rw [hse] at hS2
        have hGu := fun (v' : Value) W (hW : Ok W) (hS : Sl Value.string W v' LS) => guess_any ⟨(hashL (textL P V s0.data.toList)).toArray⟩ P 100 v' LS W hW (by omega) hS (by omega) (fun y hy => by have := (hLok y hy).2; omega)
        rw [hgr] at hGu
        generalize hHH : (⟨(hashL (textL P V s0.data.toList)).toArray⟩ : ByteArray) = HH at hS1 hS2 hGu
        unfold boxV at hS1 hS2
        unfold GuessP boxV at hGu
        simp only at hS1 hS2 hGu
        have HS1 := Lib.hid hS1; have HS2 := Lib.hid hS2; have HGU := Lib.hid hGu; have HSL := Lib.hid hsl; have HLOK := Lib.hid hLok; have HSM := Lib.hid hsm; have HO := Lib.hid hown; have HL := Lib.hid hLl
        clear hS1 hS2 hGu hsl hLok hsm hown hLl hgr hse hs0z hsz hbox hHs hsize hHH hmap hLS hs0 hs0m
        have e1 : (1 : Int) + (pp : Int) % 30 = P := HP.out.symm
        have e2 : (vv : Int) % 100 = (V : Int) := HV.out
        have e3 : (aa : Int) % (xs.length : Int) = (K : Int) := HK.out
        rw [HL.out] at HSL HO
        go_wp2_with fail
        obtain ⟨W2, hW2⟩ : ∃ W2, W2 = wr.alloc (Obj.cells #[.int .i64 P, .int .i64 V, .string s0] 23) := ⟨_, rfl⟩
        rw [← hW2]
        have hb2 : Below wr.heap.size wr W2 := by rw [hW2]; exact (Below.refl _ _).alloc (Nat.le_refl _) _
        have hz2 : wr.heap.size < W2.heap.size := by rw [hW2]; simp
        have x0 : W2.cell? ⟨wr.heap.size, 0, none⟩ = some (.int .i64 P) := by rw [hW2]; simp [World.cell?_alloc_new]
        have X0 := Lib.hid x0
        clear hW2 x0 hc0
        generalize hbbx : wr.heap.size = bb at hb2 hz2 X0 hzr ⊢
        have hokr : Ok wr := hw.below hbr
        have hbr2 : Below w.heap.size w W2 := hbr.trans (hb2.mono (by have := hbr.size; omega))
        refine (HS1.out _ (hw.below hbr2)).mono ?_
        rintro e w3 ⟨rfl, hb3⟩
        have hbr3 : Below w.heap.size w w3 := hbr2.trans (hb3.mono hbr2.size)
        have hz3 := hb3.size
        have hx3 : w3.cell? ⟨bb, 0, none⟩ = some (.int .i64 P) := (hb3.cell (p := ⟨bb, 0, none⟩) hz2).trans X0.out
        have HSL3 := Lib.hid ((HSL.out.below (by rw [hbbx]; exact hb2)).below hb3)
        have hbb3 : bb < w3.heap.size := by omega
        have HX3 := Lib.hid hx3
        clear hx3 hb2 hb3 hbr hbr2 hokr
        go_wp2_with fail
        have d0 : w3.drew.cell? ⟨bb, 0, none⟩ = some (.int .i64 P) := HX3.out
        have d1 : (w3.alloc (Obj.cells #[] 9)).drew.cell? ⟨bb, 0, none⟩ = some (.int .i64 P) := ((Found.b1 w3).cell (p := ⟨bb, 0, none⟩) hbb3).trans HX3.out
        have d1' : (w3.alloc (Obj.cells #[.int .i64 0, .int .i64 0, .string ⟨#[]⟩] 23)).drew.cell? ⟨bb, 0, none⟩ = some (.int .i64 P) := (((Below.refl w3.heap.size w3).alloc (Nat.le_refl _) _).cell (p := ⟨bb, 0, none⟩) hbb3).trans HX3.out
        have d1b : ((w3.alloc (Obj.cells #[] 9)).alloc (Obj.cells #[.int .i64 0, .int .i64 0, .string ⟨#[]⟩] 23)).drew.cell? ⟨bb, 0, none⟩ = some (.int .i64 P) := ((Found.b2 w3).cell (p := ⟨bb, 0, none⟩) hbb3).trans HX3.out
        have d1c : ((w3.alloc (Obj.cells #[.int .i64 0, .int .i64 0, .string ⟨#[]⟩] 23)).alloc (Obj.cells #[] 9)).drew.cell? ⟨bb, 0, none⟩ = some (.int .i64 P) := ((Found.b3 w3).cell (p := ⟨bb, 0, none⟩) hbb3).trans HX3.out
        go_region_law
          (first
          | (refine step_app_all (enc := Value.string) _ rfl (.tmp 75) (.tmp 76) rfl Tryd.underlying67 infoStr rfl (fun _ => rfl) (by decide) w3.heap.size w3.heap.size (by simp [Act.eval, Act.put]) ?own3 (.slice (some ⟨g, 0, none⟩) xs.length cap) LS (by simp [Act.eval, Act.put]) ?sl3 (.inr ⟨_, _, _, rfl⟩) ?hl3 ?hB3 ?_; (case own3 => exact own_new (Nat.le_refl _) (World.alloc_heap_new w3 _)); (case sl3 => exact (HSL3.out).below (Found.b1 w3)); (case hl3 => have := HL.out; omega); (case hB3 => have := ((Found.b1 w3)).size; omega)
             rintro v4 W4 hown4 hgrow4 ⟨g4, c4, rfl, hg4⟩
             have hb4 : Below w3.heap.size w3 W4 := ((Found.b1 w3)).grown hgrow4 ((Found.b1 w3)).size (fun q e => by simp at e; omega)
             have d2 : W4.cell? ⟨bb, 0, none⟩ = some (.int .i64 P) := (hb4.cell (p := ⟨bb, 0, none⟩) hbb3).trans HX3.out
             have d3 : (W4.alloc (Obj.cells #[.int .i64 0, .int .i64 0, .string ⟨#[]⟩] 23)).cell? ⟨bb, 0, none⟩ = some (.int .i64 P) := (((Below.refl W4.heap.size W4).alloc (Nat.le_refl _) _).cell (p := ⟨bb, 0, none⟩) (Nat.lt_of_lt_of_le hbb3 hb4.size)).trans d2
             have H4 := Lib.hid (Sl.ofOwn hown4)
             have hzz4 := hgrow4.size
             have hB4 : True := trivial
             clear hown4 hgrow4)
          | (refine step_app_all (enc := Value.string) _ rfl (.tmp 75) (.tmp 76) rfl Tryd.underlying67 infoStr rfl (fun _ => rfl) (by decide) w3.heap.size w3.heap.size (by simp [Act.eval, Act.put]) ?own4 (.slice (some ⟨g, 0, none⟩) xs.length cap) LS (by simp [Act.eval, Act.put]) ?sl4 (.inr ⟨_, _, _, rfl⟩) ?hl4 ?hB4 ?_; (case own4 => exact Found.own2 w3); (case sl4 => exact (HSL3.out).below (Found.b2 w3)); (case hl4 => have := HL.out; omega); (case hB4 => have := ((Found.b2 w3)).size; omega)
             rintro v4 W4 hown4 hgrow4 ⟨g4, c4, rfl, hg4⟩
             have hb4 : Below w3.heap.size w3 W4 := ((Found.b2 w3)).grown hgrow4 ((Found.b2 w3)).size (fun q e => by simp at e; omega)
             have d2 : W4.cell? ⟨bb, 0, none⟩ = some (.int .i64 P) := (hb4.cell (p := ⟨bb, 0, none⟩) hbb3).trans HX3.out
             have d3 : (W4.alloc (Obj.cells #[.int .i64 0, .int .i64 0, .string ⟨#[]⟩] 23)).cell? ⟨bb, 0, none⟩ = some (.int .i64 P) := (((Below.refl W4.heap.size W4).alloc (Nat.le_refl _) _).cell (p := ⟨bb, 0, none⟩) (Nat.lt_of_lt_of_le hbb3 hb4.size)).trans d2
             have H4 := Lib.hid (Sl.ofOwn hown4)
             have hzz4 := hgrow4.size
             have hB4 : Hid (W4.heap[w3.heap.size + 1]? = some (.cells #[.int .i64 0, .int .i64 0, .string ⟨#[]⟩] 23 (0, 0))) := (hgrow4.block _ (by simp) (by simp)).trans (Found.blk2 w3)
             clear hown4 hgrow4)
          | (refine step_app_all (enc := Value.string) _ rfl (.tmp 75) (.tmp 76) rfl Tryd.underlying67 infoStr rfl (fun _ => rfl) (by decide) w3.heap.size (w3.heap.size + 1) (by simp [Act.eval, Act.put]) ?own5 (.slice (some ⟨g, 0, none⟩) xs.length cap) LS (by simp [Act.eval, Act.put]) ?sl5 (.inr ⟨_, _, _, rfl⟩) ?hl5 ?hB5 ?_; (case own5 => exact Found.own3 w3); (case sl5 => exact (HSL3.out).below (Found.b3 w3)); (case hl5 => have := HL.out; omega); (case hB5 => have := ((Found.b3 w3)).size; omega)
             rintro v4 W4 hown4 hgrow4 ⟨g4, c4, rfl, hg4⟩
             have hb4 : Below w3.heap.size w3 W4 := ((Found.b3 w3)).grown hgrow4 ((Found.b3 w3)).size (fun q e => by simp at e; omega)
             have d2 : W4.cell? ⟨bb, 0, none⟩ = some (.int .i64 P) := (hb4.cell (p := ⟨bb, 0, none⟩) hbb3).trans HX3.out
             have d3 : (W4.alloc (Obj.cells #[.int .i64 0, .int .i64 0, .string ⟨#[]⟩] 23)).cell? ⟨bb, 0, none⟩ = some (.int .i64 P) := (((Below.refl W4.heap.size W4).alloc (Nat.le_refl _) _).cell (p := ⟨bb, 0, none⟩) (Nat.lt_of_lt_of_le hbb3 hb4.size)).trans d2
             have H4 := Lib.hid (Sl.ofOwn hown4)
             have hzz4 := hgrow4.size
             have hB4 : Hid (W4.heap[w3.heap.size]? = some (.cells #[.int .i64 0, .int .i64 0, .string ⟨#[]⟩] 23 (0, 0))) := (hgrow4.block _ (by simp; omega) (by simp)).trans (Found.blk3 w3)
             clear hown4 hgrow4)
          | (go_simp; go_at_call 32; refine (HGU.out _ W4 ?_ ?_).mono ?_; (exact hw.below (hbr3.trans (hb4.mono hbr3.size))); (exact H4.out); rintro e w5 ⟨rfl, hb5⟩
             have hb45 : Below w3.heap.size w3 w5 := hb4.trans (hb5.mono hb4.size)
             (first
              | (have hB5 := (hb5.block _ (lt_of_heap hB4.out)).trans hB4.out; have z0 := cell_of_heap (i := 0) hB5; have z1 := cell_of_heap (i := 1) hB5; have z2 := cell_of_heap (i := 2) hB5; have f0 := free_of_heap (i := 0) hB5; have f1 := free_of_heap (i := 1) hB5; have f2 := free_of_heap (i := 2) hB5; have HB5 := Lib.hid hB5; clear hB5)
              | skip))
          | (go_simp; go_at_call 32; refine (HGU.out _ (W4.alloc (Obj.cells #[.int .i64 0, .int .i64 0, .string ⟨#[]⟩] 23)) ?_ ?_).mono ?_; (exact hw.below (hbr3.trans ((hb4.alloc hb4.size _).mono hbr3.size))); (exact (H4.out).below ((Below.refl _ _).alloc (Nat.le_refl _) _)); rintro e w5 ⟨rfl, hb5⟩
             have hb45 : Below w3.heap.size w3 w5 := (hb4.alloc hb4.size _).trans (hb5.mono (by rw [alloc_size1]; have := hb4.size; omega))
             have hB5 := (hb5.block W4.heap.size (by rw [alloc_size1]; omega)).trans (World.alloc_heap_new W4 _); have z0 := cell_of_heap (i := 0) hB5; have z1 := cell_of_heap (i := 1) hB5; have z2 := cell_of_heap (i := 2) hB5; have f0 := free_of_heap (i := 0) hB5; have f1 := free_of_heap (i := 1) hB5; have f2 := free_of_heap (i := 2) hB5; have HB5 := Lib.hid hB5; clear hB5))
        all_goals
          (first
            | (obtain ⟨W6, hW6⟩ : ∃ W6, W6 = w5.alloc (Obj.cells #[.int .i64 P, .int .i64 u, .string s] 23) := ⟨_, rfl⟩
               rw [← hW6]
               have hx6 : W6.heap[w5.heap.size]? = some (.cells #[.int .i64 P, .int .i64 u, .string s] 23 (0, 0)) := by rw [hW6]; exact World.alloc_heap_new w5 _
               have hb6 : Below w3.heap.size w3 W6 := by rw [hW6]; exact hb45.alloc hb45.size _
               clear hW6)
            | (have hx6 : (((w5.setCell ⟨w3.heap.size, 0, none⟩ (.int .i64 P)).setCell ⟨w3.heap.size, 1, none⟩ (.int .i64 u)).setCell ⟨w3.heap.size, 2, none⟩ (.string s)).heap[w3.heap.size]? = some (.cells #[.int .i64 P, .int .i64 u, .string s] 23 (0, 0)) := by
                 have h6 := setCell_heap (setCell_heap (setCell_heap HB5.out (i := 0) (.int .i64 P)) (i := 1) (.int .i64 u)) (i := 2) (.string s)
                 exact h6
               have hb6 : Below w3.heap.size w3 (((w5.setCell ⟨w3.heap.size, 0, none⟩ (.int .i64 P)).setCell ⟨w3.heap.size, 1, none⟩ (.int .i64 u)).setCell ⟨w3.heap.size, 2, none⟩ (.string s)) := ((hb45.setCell (by have := hb4.size; simp; try omega) _).setCell (by have := hb4.size; simp; try omega) _).setCell (by have := hb4.size; simp; try omega) _
               generalize (((w5.setCell ⟨w3.heap.size, 0, none⟩ (.int .i64 P)).setCell ⟨w3.heap.size, 1, none⟩ (.int .i64 u)).setCell ⟨w3.heap.size, 2, none⟩ (.string s)) = W6 at hx6 hb6 ⊢)
            | (have hx6 : (((w5.setCell ⟨w3.heap.size + 1, 0, none⟩ (.int .i64 P)).setCell ⟨w3.heap.size + 1, 1, none⟩ (.int .i64 u)).setCell ⟨w3.heap.size + 1, 2, none⟩ (.string s)).heap[w3.heap.size + 1]? = some (.cells #[.int .i64 P, .int .i64 u, .string s] 23 (0, 0)) := by
                 have h6 := setCell_heap (setCell_heap (setCell_heap HB5.out (i := 0) (.int .i64 P)) (i := 1) (.int .i64 u)) (i := 2) (.string s)
                 exact h6
               have hb6 : Below w3.heap.size w3 (((w5.setCell ⟨w3.heap.size + 1, 0, none⟩ (.int .i64 P)).setCell ⟨w3.heap.size + 1, 1, none⟩ (.int .i64 u)).setCell ⟨w3.heap.size + 1, 2, none⟩ (.string s)) := ((hb45.setCell (by have := hb4.size; simp; try omega) _).setCell (by have := hb4.size; simp; try omega) _).setCell (by have := hb4.size; simp; try omega) _
               generalize (((w5.setCell ⟨w3.heap.size + 1, 0, none⟩ (.int .i64 P)).setCell ⟨w3.heap.size + 1, 1, none⟩ (.int .i64 u)).setCell ⟨w3.heap.size + 1, 2, none⟩ (.string s)) = W6 at hx6 hb6 ⊢)
            | (have hx6 : (((w5.setCell ⟨W4.heap.size, 0, none⟩ (.int .i64 P)).setCell ⟨W4.heap.size, 1, none⟩ (.int .i64 u)).setCell ⟨W4.heap.size, 2, none⟩ (.string s)).heap[W4.heap.size]? = some (.cells #[.int .i64 P, .int .i64 u, .string s] 23 (0, 0)) := by
                 have h6 := setCell_heap (setCell_heap (setCell_heap HB5.out (i := 0) (.int .i64 P)) (i := 1) (.int .i64 u)) (i := 2) (.string s)
                 exact h6
               have hb6 : Below w3.heap.size w3 (((w5.setCell ⟨W4.heap.size, 0, none⟩ (.int .i64 P)).setCell ⟨W4.heap.size, 1, none⟩ (.int .i64 u)).setCell ⟨W4.heap.size, 2, none⟩ (.string s)) := ((hb45.setCell (by have := hb4.size; simp; try omega) _).setCell (by have := hb4.size; simp; try omega) _).setCell (by have := hb4.size; simp; try omega) _
               generalize (((w5.setCell ⟨W4.heap.size, 0, none⟩ (.int .i64 P)).setCell ⟨W4.heap.size, 1, none⟩ (.int .i64 u)).setCell ⟨W4.heap.size, 2, none⟩ (.string s)) = W6 at hx6 hb6 ⊢))
          obtain ⟨q0, q1, q2⟩ := box_cells hx6
          have hx6z := lt_of_heap hx6
          have HX6 := Lib.hid hx6; have HB6 := Lib.hid hb6
          clear hx6 hb6
          go_wp2_with fail
          have hbw6 : Below w.heap.size w W6 := hbr3.trans ((HB6.out).mono hbr3.size)
          refine (HS2.out _ (hw.below hbw6)).mono ?_
          rintro e w7 ⟨rfl, hb7⟩
          have hb37 : Below w3.heap.size w3 w7 := (HB6.out).trans (hb7.mono (HB6.out).size)
          have hbw7 : Below w.heap.size w w7 := hbw6.trans (hb7.mono hbw6.size)
          clear q0 q1 q2
          obtain ⟨q0, q1, q2⟩ := box_cells ((hb7.block _ (lt_of_heap HX6.out)).trans HX6.out)
          have p0 : w7.cell? ⟨bb, 0, none⟩ = some (.int .i64 P) := (hb37.cell (p := ⟨bb, 0, none⟩) hbb3).trans HX3.out
          have HSL7 := Lib.hid ((HSL3.out).below hb37)
          have hu' : (u : Int) < 100 := by omega
          have HB7 := Lib.hid hbw7
          clear hb7 hb37 hbw7 hbw6 d0 d1 d1' d1b d1c
          go_wp2
          go_loopw [16, 17] (fun t i wr => ∃ k : Nat, k ≤ xs.length ∧ i = .int .i64 k ∧ t = .bool (hasS s (LS.take k)) ∧ ∃ q, wr = w7.drewN q) (fun _ i _ => xs.length - (intOf i).toNat)
          case atStart => exact ⟨0, Nat.zero_le _, rfl, rfl, 0, rfl⟩
          case round =>
            obtain ⟨k, hk, rfl, rfl, q, rfl⟩ := hrel
            by_cases hlt : k < xs.length
            · obtain ⟨y, hyk⟩ := get_some (xs := LS) (k := k) (by have := HL.out; omega)
              have hcy : w7.cell? ⟨g, k, none⟩ = some (.string y) := by
                have := (HSL7.out).cells.2 k y hyk
                simpa using this
              have HT := Lib.hid (take_snoc hyk)
              clear hyk
              have hne : hasS s (LS.take (k + 1)) = (hasS s (LS.take k) || (y.toList == s.toList)) := by
                rw [HT.out]; unfold hasS; simp
              have HNE := Lib.hid hne
              clear hne
              cases hh : hasS s (LS.take k) with
              | true =>
                rw [hh] at HNE
                have HH2 := Lib.hid hh
                clear hh
                go_wp2
                go_quiet (fail)
                go_wp2
                go_roundw
                case rel => exact ⟨k + 1, by omega, by go_num, by rw [HNE.out]; rfl, q + nq, by simp⟩
                case measure => simp [intOf]; omega
              | false =>
                rw [hh] at HNE
                have HH2 := Lib.hid hh
                clear hh
                go_wp2
                go_quiet (fail)
                go_wp2
                go_roundw
                case rel => exact ⟨k + 1, by omega, by go_num, by rw [HNE.out]; simp, q + nq, by simp⟩
                case measure => simp [intOf]; omega
            · obtain rfl : k = xs.length := by omega
              have htk : LS.take xs.length = LS := List.take_of_length_le (by have := HL.out; omega)
              have hfin : hasS s (LS.take xs.length) = true := by
                rw [htk]
                unfold hasS
                exact List.any_eq_true.2 ⟨s, HSM.out, by simp⟩
              rw [hfin]
              clear hfin htk
              have hq2 : Below w.heap.size w (w7.drewN q) := below_drewN HB7.out q
              go_wp2_with fail
              refine (known_any _ (hw.below hq2)).mono ?_
              rintro e w9 ⟨rfl, hb9⟩
              go_wp2
              go_ret
              exact ⟨rfl, hq2.trans (hb9.mono hq2.size)⟩
end Go.Proofs.YtcmpindjgfojaaaDoor
