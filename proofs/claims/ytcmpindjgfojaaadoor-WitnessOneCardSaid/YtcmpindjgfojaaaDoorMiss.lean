/- Walks: WitnessMissing. -/
import Derived.Test.YtcmpindjgfojaaaDoorWitL
import Derived.Test.YtcmpindjgfojaaaDoorMissP
namespace Go.Proofs.YtcmpindjgfojaaaDoor
open Go.RowKit

theorem make_ints {n : Nat} (hn : n ≤ 20) (w : World) : (Instr.makeSlice 33 (.int .i64 n) (.int .i64 n)).run Tryd.prog w = .ok (.slice (some ⟨w.heap.size, 0, none⟩) n n) (w.alloc (.cells (List.replicate n (Value.int .i64 0)).toArray 3)) := by
  obtain ⟨i0, hi, hz0, hz1, hz2⟩ := info_parts infoInt
  have := run_make w 33 3 i0 _ Tryd.underlying33 hi hz0 .i64 .i64 n n (by omega) (Int.le_refl _) (by rw [hz2]; omega) (by omega)
  rw [this, hz1]
  have e : madeCells (Value.cells (.int .i64 0)) n = (List.replicate n (Value.int .i64 0)).toArray := by
    apply Array.ext'
    unfold madeCells
    simp only [Array.toList_map, Array.toList_range]
    apply List.ext_getElem
    · simp
    · intro j h1 h2
      simp [Value.cells, Nat.mod_one]
  simp only [Int.toNat_natCast, Nat.mul_one]
  rw [e]

theorem own_keep {w w' : World} {B N g n cap : Nat} {xs : List Value} (h : w.ownsRow B 3 1 (.slice (some ⟨g, 0, none⟩) n cap) n xs) (hb : Below N w w') (hg : g < N) : w'.ownsRow B 3 1 (.slice (some ⟨g, 0, none⟩) n cap) n xs := by
  obtain ⟨h1, h2⟩ := h
  refine ⟨h1, ?_⟩
  rcases h2 with h2 | ⟨g', cap', cur, hv, hg', hh, r⟩
  · exact .inl h2
  · simp only [Value.slice.injEq, Option.some.injEq, Addr.mk.injEq, and_true, true_and] at hv
    obtain ⟨rfl, rfl⟩ := hv
    exact .inr ⟨g, cap, cur, rfl, hg', (hb.block g hg).trans hh, r⟩
theorem alloc_sz (w : World) (o : Obj) : (w.alloc o).heap.size = w.heap.size + 1 := by simp
theorem two_below (w : World) (X Y : Array Value) : Below w.heap.size w ((w.alloc (Obj.cells X 3)).alloc (Obj.cells Y 3)).drew := (((Below.refl _ _).alloc (Nat.le_refl _) _).alloc (by simp) _).drew
theorem two_a (w : World) (X Y : Array Value) : ((w.alloc (Obj.cells X 3)).alloc (Obj.cells Y 3)).drew.heap[w.heap.size]? = some (.cells X 3 (0, 0)) := by
  have := World.alloc_heap_new w (Obj.cells X 3)
  exact (Below.heap_alloc (w.alloc _) _ w.heap.size (by simp)).trans this
theorem two_b (w : World) (X Y : Array Value) : ((w.alloc (Obj.cells X 3)).alloc (Obj.cells Y 3)).drew.heap[w.heap.size + 1]? = some (.cells Y 3 (0, 0)) := by
  have := World.alloc_heap_new (w.alloc (Obj.cells X 3)) (Obj.cells Y 3)
  rw [show (w.alloc (Obj.cells X 3)).heap.size = w.heap.size + 1 by simp] at this
  exact this
theorem own_empty {w : World} {B g : Nat} (h : B ≤ g) (hg : w.heap[g]? = some (.cells #[] 3 (0, 0))) : w.ownsRow B 3 1 (.slice (some ⟨g, 0, none⟩) 0 0) 0 [] :=
  ⟨rfl, .inr ⟨g, 0, #[], rfl, h, hg, Nat.le_refl _, by decide, rfl, rfl⟩⟩

set_option maxRecDepth 100000 in
set_option maxHeartbeats 2000000 in
theorem missing_any (xs : List Int) (b : Int) (v : Value) (w : World) (hw : Ok w) (hv : Sl (.int .u8) w v xs) (hx : ∀ x ∈ xs, 0 ≤ x ∧ x ≤ 255) (hb0 : 0 ≤ b) (hb1 : b ≤ 255) :
    Calls Tryd.prog 5 #[v, .int .u8 b] w fun e w' => e = .returned (.bool true) ∧ Below w.heap.size w w' := by
  obtain ⟨a, c, rfl, hcap, hcell⟩ := hv
  by_cases h5 : 5 < xs.length
  · go_enter Tryd.func5, Tryd.ntmps5
    go_wp2_with (go_at_call 9; refine (known_any _ hw).mono ?_; rintro e w1 ⟨rfl, hb1⟩)
    go_ret
    exact ⟨rfl, hb1⟩
  · have hn0 : 0 ≤ b % 20 := Int.emod_nonneg _ (by omega)
    have hn1 : b % 20 < 20 := Int.emod_lt_of_pos _ (by omega)
    obtain ⟨n, he⟩ := Int.eq_ofNat_of_zero_le (show 0 ≤ 1 + b % 20 by omega)
    have hn2 : 1 ≤ n := by omega
    have hn3 : n ≤ 20 := by omega
    obtain ⟨i0, hi, hz0, hz1, hz2⟩ := info_parts infoInt
    have hmk := fun wx => make_ints (n := n) hn3 wx
    have HC := Lib.hid hcell
    clear hcell hn0 hn1
    go_enter Tryd.func5, Tryd.ntmps5
    go_wp2_with fail
    go_region
    · obtain ⟨g, hg⟩ : ∃ g, g = w.heap.size := ⟨_, rfl⟩
      obtain ⟨gs, hgs⟩ : ∃ gs, gs = w.heap.size + 1 := ⟨_, rfl⟩
      obtain ⟨W1, hW1⟩ : ∃ W1, W1 = ((w.alloc (Obj.cells #[] 3)).alloc (Obj.cells (Array.replicate n (Value.int .i64 0)) 3)).drew := ⟨_, rfl⟩
      rw [← hW1]
      rw [← hgs, ← hg]
      have hb1 : Below w.heap.size w W1 := by rw [hW1]; exact two_below w _ _
      have hg1 : W1.heap[g]? = some (.cells #[] 3 (0, 0)) := by rw [hW1, hg]; exact two_a w _ _
      have hgs1 : W1.heap[gs]? = some (.cells (Array.replicate n (Value.int .i64 0)) 3 (0, 0)) := by rw [hW1, hgs]; exact two_b w _ _
      have hne : g ≠ gs := by omega
      have hgw : w.heap.size ≤ g := by omega
      have hgsw : w.heap.size ≤ gs := by omega
      have hbw := hb1
      have own0 : W1.ownsRow w.heap.size 3 1 (.slice (some ⟨g, 0, none⟩) 0 0) 0 [] := own_empty hgw hg1
      clear hW1 hg hgs hg1 hmk
      have hst1 : Stay W1.heap.size W1 W1 := ⟨Below.refl _ _, Nat.le_refl _, hw.below hb1⟩
      have HB := Lib.hid hbw
      clear hbw
      simp only [Exit.then]
      go_at_K
      go_wp2
      go_loopw [6, 8] (fun t i wr => ∃ (k gq cap : Nat), k ≤ xs.length ∧ i = .int .i64 k ∧ t = .slice (some ⟨gq, 0, none⟩) k cap ∧ wr.ownsRow w.heap.size 3 1 t k ((xs.take k).map fun x => .int .i64 (x % n)) ∧ gq ≠ gs ∧ wr.heap[gs]? = some (.cells (Array.replicate n (Value.int .i64 0)) 3 (0, 0)) ∧ Below w.heap.size w wr) (fun _ i _ => xs.length - (intOf i).toNat)
      case atStart => exact ⟨0, g, 0, Nat.zero_le _, rfl, rfl, own0, hne, hgs1, HB.out⟩
      case round =>
        obtain ⟨k, gq, cap, hk, rfl, rfl, hown, hq, hgsr, hbr⟩ := hrel
        by_cases hlt : k < xs.length
        · obtain ⟨b0, off, rfl, hbw0, hcells⟩ := HC.out (by omega)
          obtain ⟨x, hxk⟩ := get_some hlt
          have hck : wr.cell? ⟨b0, off + k, none⟩ = some (.int .u8 x) := (hbr.cell (p := ⟨b0, off + k, none⟩) hbw0).trans (hcells k x hxk)
          have hx1 := hx x (List.mem_of_getElem? hxk)
          have hx2 := hx1.1
          have hx3 := hx1.2
          have Hs := Lib.hid (take_snoc hxk)
          have HO := Lib.hid hown
          have HGS := Lib.hid hgsr
          clear hcells hxk hx1 hown hgsr
          go_wp2_with (at_builtin; refine wpList_append_own_at _ rfl _ _ _ rfl w.heap.size 3 i0 (.int .i64 0) 1 8 Tryd.underlying33 hi hz0 hz1 hz2 rfl Nat.one_pos (.slice (some ⟨gq, 0, none⟩) k cap) k ((xs.take k).map fun x => .int .i64 (x % n)) rfl ?own ⟨wr.heap.size, 0, none⟩ 1 1 [.int .i64 (x % n)] rfl rfl ?hnews ?h1 ?h63 ?hb ?base ?_)
          case own => exact (HO.out).alloc _
          case hnews => exact cell_one_new _ _ _
          case h1 => intro u hu; simp at hu; subst hu; rfl
          case h63 => simp [maxLen]; omega
          case hb => omega
          case base => have := hbr.size; simp; omega
          intro v' W' hown' hgrow hnil hat
          obtain ⟨gq', cap', rfl⟩ : ∃ gq' cap', v' = .slice (some ⟨gq', 0, none⟩) (k + 1) cap' := ownsRow_succ hown'
          go_wp2
          go_roundw
          case rel =>
            have hgl := lt_of_heap HGS.out
            have hg' : gq' ≠ gs := by
              simp only [Value.ownBlock, Option.some.injEq] at hat
              rcases hat with hat | hat
              · omega
              · first | omega | (rw [alloc_sz] at hat; omega)
            refine ⟨k + 1, gq', cap', by omega, by simp, rfl, ?_, hg', ?_, ?_⟩
            · rw [Hs.out]; simpa using hown'
            · exact (hgrow.block gs (by simp; omega) (by simp [Value.ownBlock]; omega)).trans ((Below.heap_alloc _ _ _ hgl).trans HGS.out)
            · refine (hbr.alloc hbr.size _).grown hgrow (by have := hbr.size; simp; omega) (fun q e => ((HO.out).lt q e).1)
          case measure => simp [intOf]; omega
        · obtain rfl : k = xs.length := by omega
          rw [List.take_length] at hown
          have hG : (List.map (fun x => Value.int IntKind.i64 (x % (n : Int))) xs) = (xs.map fun x => x % (n : Int)).map (Value.int .i64) := by rw [List.map_map]; rfl
          rw [hG] at hown
          obtain ⟨G, hGe⟩ : ∃ G, G = xs.map fun x => x % (n : Int) := ⟨_, rfl⟩
          rw [← hGe] at hown
          have hGl : G.length = xs.length := by rw [hGe]; simp
          have hGb : ∀ x ∈ G, 0 ≤ x ∧ x ≤ (n : Int) - 1 := by
            intro x hx'
            rw [hGe] at hx'
            obtain ⟨y, _, rfl⟩ := List.mem_map.1 hx'
            have := Int.emod_nonneg y (show (n : Int) ≠ 0 by omega)
            have := Int.emod_lt_of_pos y (show (0 : Int) < n by omega)
            omega
          have hseen : wr.heap[gs]? = some (.cells ((seenL n G.sum 0).map (Value.int .i64)).toArray 3 (0, 0)) := by
            rw [hgsr, seen_zero]; simp
          generalize hlx : xs.length = len at *
          have HO := Lib.hid hown; have HS := Lib.hid hseen; have HGl := Lib.hid hGl; have HGb := Lib.hid hGb
          clear hown hseen hgsr hG hGe hGl hGb own0 hgs1 HC hx hlx
          go_wp2
          go_loopw [9] (fun i wr => ∃ v : Nat, v ≤ n ∧ i = .int .i64 v ∧ wr.ownsRow w.heap.size 3 1 (.slice (some ⟨gq, 0, none⟩) len cap) len (G.map (Value.int .i64)) ∧ wr.heap[gs]? = some (.cells ((seenL n G.sum v).map (Value.int .i64)).toArray 3 (0, 0)) ∧ Below w.heap.size w wr) (fun i _ => n - (intOf i).toNat)
          case atStart => exact ⟨0, Nat.zero_le _, rfl, HO.out, HS.out, hbr⟩
          case round =>
            clear HO HS hbr
            obtain ⟨v, hv, rfl, hown, hseen, hbq⟩ := hrel
            by_cases hvn : v < n
            · have HO := Lib.hid hown; have HS := Lib.hid hseen
              clear hown hseen
              go_wp2_with (at_builtin; refine wpList_append_own_at _ rfl _ _ _ rfl w.heap.size 3 i0 (.int .i64 0) 1 8 Tryd.underlying33 hi hz0 hz1 hz2 rfl Nat.one_pos (.slice (some ⟨wr.heap.size, 0, none⟩) 0 0) 0 [] rfl ?own ⟨gq, 0, none⟩ len cap (G.map (Value.int .i64)) rfl ?hl ?hnews ?h1 ?h63 ?hb ?base ?_)
              case own =>
                have := World.alloc_heap_new wr (Obj.cells #[] 3)
                exact own_empty hbq.size this
              case hl => simp [HGl.out]
              case hnews => exact ((HO.out).alloc _).cells rfl
              case h1 => exact ints_oneCell .i64 G
              case h63 => simp [maxLen]; omega
              case hb => omega
              case base => have := hbq.size; rw [alloc_sz]; omega
              intro v' W' hown' hgrow hnil hat
              have hown2 : W'.ownsRow w.heap.size 3 1 v' G.length (G.map (Value.int .i64)) := by rw [HGl.out]; simpa using hown'
              have hsz1 := hgrow.size
              rw [alloc_sz] at hsz1
              have hgl := lt_of_heap HS.out
              have hgs2 : W'.heap[gs]? = some (.cells ((seenL n G.sum v).map (Value.int .i64)).toArray 3 (0, 0)) := (hgrow.block gs (by rw [alloc_sz]; omega) (by simp [Value.ownBlock]; omega)).trans ((Below.heap_alloc _ _ _ hgl).trans HS.out)
              have hown3 : W'.ownsRow w.heap.size 3 1 (.slice (some ⟨gq, 0, none⟩) len cap) len (G.map (Value.int .i64)) := ((HO.out).alloc _).kept hgrow (by right; have := ((HO.out).lt gq rfl).2; simp [Value.ownBlock]; omega)
              have hb' : Below w.heap.size w W' := (hbq.alloc hbq.size _).grown hgrow (by have := hbq.size; rw [alloc_sz]; omega) (fun q e => by simp [Value.ownBlock] at e; have := hbq.size; omega)
              have HA := Lib.hid hown2; have HB' := Lib.hid hgs2; have HC' := Lib.hid hown3
              clear hown' hgrow hnil hat hown2 hgs2 hown3 HO HS
              go_wp2_with fail
              refine (split_any (v : Int) (n : Int) v' G _ (Sl.ofOwn HA.out) (by rw [HGl.out]; omega)).mono ?_
              rw [splitR_sum (by omega) (by omega) (by omega) (by omega) G (by rw [HGl.out]; omega) HGb.out]
              rintro e W2 ⟨v3, rfl, hsp, hb2⟩
              have hlen : (G ++ [lastS v n G]).length = len + 1 := by simp [HGl.out]
              rw [hlen] at hsp
              obtain ⟨g3, cap3, rfl⟩ := ownsRow_succ hsp
              obtain ⟨l, hl'⟩ := Int.eq_ofNat_of_zero_le (lastS_bd (v := v) (below := n) (by omega) G).1
              obtain ⟨hln, hsee, hset⟩ := seen_at hn2 hvn hl'
              have hcb := combine_split (v := v) (below := n) (by omega) (by omega) (by omega) (by omega) G (by rw [HGl.out]; omega) HGb.out
              rw [hl'] at hsp hcb
              have hc3 : W2.cell? ⟨g3, len, none⟩ = some (.int .i64 l) := by
                rw [hsp.cellAt len (by omega), List.getElem?_map, List.getElem?_append_right (by rw [HGl.out]; omega), HGl.out]
                simp
              have hs2 : W2.heap[gs]? = some (.cells ((seenL n G.sum v).map (Value.int .i64)).toArray 3 (0, 0)) := (hb2.block _ (lt_of_heap HB'.out)).trans HB'.out
              have hcs : W2.cell? ⟨gs, l, none⟩ = some (.int .i64 0) := (cell_of_heap hs2).trans (by simp [hsee])
              have hfs : W2.frozen? ⟨gs, l, none⟩ = false := free_of_heap hs2
              have hg3 : gs ≠ g3 := by
                have := (hsp.lt g3 rfl).1
                have := lt_of_heap HB'.out
                omega
              have hg3' : g3 ≠ gs := Ne.symm hg3
              have hl0 : ((l : Int) < 0) = False := by simp
              have hn0' : ((n : Int) ≤ l) = False := by simp; omega
              have hg3w : g3 < W2.heap.size := (hsp.lt g3 rfl).2
              have hgs2 : gs < W2.heap.size := lt_of_heap hs2
              have hq2 : gq < W2.heap.size := ((own_below HC'.out hb2).lt gq rfl).2
              have HS2 := Lib.hid hs2; have HSP := Lib.hid hsp; have HSet := Lib.hid hset; have HCB := Lib.hid hcb; have HOW := Lib.hid (own_below HC'.out hb2)
              have hbW2 : Below w.heap.size w W2 := hb'.trans (hb2.mono hb'.size)
              clear hs2 hsp hset hcb hsee hl' HA HB' HC' hlen
              simp only
              go_wp2
              obtain ⟨W3, hW3⟩ : ∃ W3, W3 = (W2.setCell ⟨gs, l, none⟩ (.int .i64 1)).alloc (Obj.cells #[] 3) := ⟨_, rfl⟩
              rw [← hW3]
              have z3 : W3.heap.size = W2.heap.size + 1 := by rw [hW3]; simp
              have hbW3 : Below w.heap.size w W3 := by rw [hW3]; exact (hbW2.setCell (by simp; omega) _).alloc (by have := hbW2.size; simp; omega) _
              have hs3 : W3.heap[gs]? = some (.cells ((seenL n G.sum (v + 1)).map (Value.int .i64)).toArray 3 (0, 0)) := by
                rw [hW3, ← HSet.out]
                refine (Below.heap_alloc _ _ gs (by have := lt_of_heap HS2.out; simpa using this)).trans ((setCell_heap HS2.out _).trans ?_)
                simp [List.map_set]
              have hsp3 : W3.ownsRow W'.heap.size 3 1 (.slice (some ⟨g3, 0, none⟩) (len + 1) cap3) (len + 1) ((G ++ [(l : Int)]).map (Value.int .i64)) := by rw [hW3]; exact (own_setCell HSP.out hg3 _).alloc _
              have how3 : W3.ownsRow w.heap.size 3 1 (.slice (some ⟨gq, 0, none⟩) len cap) len (G.map (Value.int .i64)) := by rw [hW3]; exact (own_setCell HOW.out (Ne.symm hq) _).alloc _
              have how0 : W3.ownsRow W2.heap.size 3 1 (.slice (some ⟨W2.heap.size, 0, none⟩) 0 0) 0 [] := by
                refine own_empty (Nat.le_refl _) ?_
                have := World.alloc_heap_new (W2.setCell ⟨gs, l, none⟩ (.int .i64 1)) (Obj.cells #[] 3)
                rw [hW3]; simpa [World.setCell] using this
              have hGlen : (G ++ [(l : Int)]).length = len + 1 := by simp [HGl.out]
              generalize G ++ [(l : Int)] = F at *
              have HS3 := Lib.hid hs3; have HSP3 := Lib.hid hsp3; have HOW3 := Lib.hid how3; have HO0 := Lib.hid how0; have HF := Lib.hid hGlen
              clear hW3 hs3 hsp3 how3 how0 hc3 hcs hfs hl0 hn0' HS2 HSP HOW HSet hGlen
              go_loopw [13, 14] (fun t i wr => ∃ (m gt capt : Nat), m ≤ len + 1 ∧ i = .int .i64 ((len : Int) - m) ∧ t = .slice (some ⟨gt, 0, none⟩) m capt ∧ wr.ownsRow W2.heap.size 3 1 t m ((F.reverse.take m).map (Value.int .i64)) ∧ Below W2.heap.size W3 wr) (fun _ i _ => (intOf i + 1).toNat)
              case atStart => exact ⟨0, W2.heap.size, 0, Nat.zero_le _, by simp, rfl, HO0.out, Below.refl _ _⟩
              case round =>
                clear HO0
                obtain ⟨m, gt, capt, hm, rfl, rfl, hown, hbr⟩ := hrel
                by_cases hml : m ≤ len
                · obtain ⟨j, hj⟩ : ∃ j : Nat, len = j + m := ⟨len - m, by omega⟩
                  have hji : (len : Int) - m = (j : Int) := by omega
                  rw [hji]
                  obtain ⟨x, hx⟩ := get_some (xs := F) (k := j) (by rw [HF.out]; omega)
                  have hcx : wr.cell? ⟨g3, j, none⟩ = some (.int .i64 x) := by
                    refine (hbr.cell (p := ⟨g3, j, none⟩) hg3w).trans (((HSP3.out).cellAt j (by omega)).trans ?_)
                    rw [List.getElem?_map, hx]; rfl
                  have hrv : F.reverse[m]? = some x := by
                    rw [List.getElem?_reverse (by rw [HF.out]; omega), HF.out, show len + 1 - 1 - m = j by omega]; exact hx
                  have Hs := Lib.hid (take_snoc hrv); have HO := Lib.hid hown; have Hji := Lib.hid hji
                  have hjl : j < len + 1 := by omega
                  clear hx hrv hown hji hj
                  go_wp2_with (at_builtin; refine wpList_append_own_at _ rfl _ _ _ rfl W2.heap.size 3 i0 (.int .i64 0) 1 8 Tryd.underlying33 hi hz0 hz1 hz2 rfl Nat.one_pos (.slice (some ⟨gt, 0, none⟩) m capt) m ((F.reverse.take m).map (Value.int .i64)) rfl ?own ⟨wr.heap.size, 0, none⟩ 1 1 [.int .i64 x] rfl rfl ?hnews ?h1 ?h63 ?hb ?base ?_)
                  case own => exact (HO.out).alloc _
                  case hnews => exact cell_one_new _ _ _
                  case h1 => intro u hu; simp at hu; subst hu; rfl
                  case h63 => simp [maxLen]; omega
                  case hb => omega
                  case base => have := hbr.size; rw [alloc_sz]; omega
                  intro v'' W'' hown' hgrow hnil hat
                  obtain ⟨gt', capt', rfl⟩ := ownsRow_succ hown'
                  have hsw := hbr.size
                  have hgb := ((HO.out).lt gt rfl).1
                  go_wp2
                  go_roundw
                  case rel =>
                    refine ⟨m + 1, gt', capt', by omega, by have := Hji.out; go_num, rfl, ?_, ?_⟩
                    · rw [Hs.out]; simpa using hown'
                    · exact (hbr.alloc (by omega) _).grown hgrow (by rw [alloc_sz]; omega) (fun q e => by simp [Value.ownBlock] at e; omega)
                  case measure => simp only [intOf]; omega
                · obtain rfl : m = len + 1 := by omega
                  have hji : (len : Int) - ((len + 1 : Nat) : Int) = -1 := by omega
                  rw [hji]
                  have htk : F.reverse.take (len + 1) = F.reverse := List.take_of_length_le (by rw [List.length_reverse, HF.out]; exact Nat.le_refl _)
                  rw [htk] at hown
                  have hsw := hbr.size
                  have hbWr : Below w.heap.size w wr := hbW3.trans (hbr.mono hbW2.size)
                  have hA : Sl (Value.int .i64) wr (.slice (some ⟨g3, 0, none⟩) (len + 1) cap3) F := by
                    have : wr.ownsRow W'.heap.size 3 1 (.slice (some ⟨g3, 0, none⟩) (len + 1) cap3) F.length (F.map (Value.int .i64)) := by
                      rw [HF.out]; exact own_keep HSP3.out hbr hg3w
                    rw [← HF.out] at this ⊢
                    exact Sl.ofOwn this
                  have hB : Sl (Value.int .i64) wr (.slice (some ⟨gt, 0, none⟩) (len + 1) capt) F.reverse := by
                    have hFr : F.reverse.length = len + 1 := by rw [List.length_reverse, HF.out]
                    rw [← hFr] at hown ⊢
                    exact Sl.ofOwn hown
                  have HA := Lib.hid hA; have HB2 := Lib.hid hB; have HO := Lib.hid hown
                  clear hA hB hown htk hji
                  go_wp2_with fail
                  refine (combine_any n _ F _ HA.out (by rw [HF.out]; omega)).mono ?_
                  rw [HCB.out.1]
                  rintro e w' ⟨rfl, rfl⟩
                  go_wp2_with fail
                  refine (combine_any n _ F.reverse _ HB2.out (by rw [List.length_reverse, HF.out]; omega)).mono ?_
                  rw [HCB.out.2]
                  rintro e w' ⟨rfl, rfl⟩
                  go_wp2
                  go_roundw
                  case rel =>
                    refine ⟨v + 1, by omega, by simp, own_keep HOW3.out hbr hq2, (hbr.block gs hgs2).trans HS3.out, hbWr⟩
                  case measure => simp [intOf]; omega
            · obtain rfl : v = n := by omega
              have hok : Ok wr := hw.below hbq
              have HSE := Lib.hid hseen
              clear hown hseen
              go_wp2
              go_loop [18] (fun i => ∃ k : Nat, k ≤ v ∧ i = .int .i64 k) (fun i => v - (intOf i).toNat)
              case atStart => exact ⟨0, Nat.zero_le _, rfl⟩
              case round =>
                obtain ⟨k, hk', rfl⟩ := hrel
                by_cases hkv : k < v
                · have hck : wr.cell? ⟨gs, k, none⟩ = some (.int .i64 1) := (cell_of_heap HSE.out).trans (by simp [seen_end _ hkv])
                  go_wp2
                  go_round
                  case rel => exact ⟨k + 1, by omega, by simp⟩
                  case measure => simp [intOf]; omega
                · obtain rfl : k = v := by omega
                  go_wp2_with (go_at_call 9; refine (known_any _ hok).mono ?_; rintro e w9 ⟨rfl, hb9⟩)
                  go_ret
                  exact ⟨rfl, hbq.trans (hb9.mono hbq.size)⟩
    · obtain ⟨g, hg⟩ : ∃ g, g = w.heap.size + 1 := ⟨_, rfl⟩
      obtain ⟨gs, hgs⟩ : ∃ gs, gs = w.heap.size := ⟨_, rfl⟩
      obtain ⟨W1, hW1⟩ : ∃ W1, W1 = ((w.alloc (Obj.cells (Array.replicate n (Value.int .i64 0)) 3)).alloc (Obj.cells #[] 3)).drew := ⟨_, rfl⟩
      rw [← hW1]
      rw [← hg, ← hgs]
      have hb1 : Below w.heap.size w W1 := by rw [hW1]; exact two_below w _ _
      have hg1 : W1.heap[g]? = some (.cells #[] 3 (0, 0)) := by rw [hW1, hg]; exact two_b w _ _
      have hgs1 : W1.heap[gs]? = some (.cells (Array.replicate n (Value.int .i64 0)) 3 (0, 0)) := by rw [hW1, hgs]; exact two_a w _ _
      have hne : g ≠ gs := by omega
      have hgw : w.heap.size ≤ g := by omega
      have hgsw : w.heap.size ≤ gs := by omega
      have hbw := hb1
      have own0 : W1.ownsRow w.heap.size 3 1 (.slice (some ⟨g, 0, none⟩) 0 0) 0 [] := own_empty hgw hg1
      clear hW1 hg hgs hg1 hmk
      have hst1 : Stay W1.heap.size W1 W1 := ⟨Below.refl _ _, Nat.le_refl _, hw.below hb1⟩
      have HB := Lib.hid hbw
      clear hbw
      simp only [Exit.then]
      go_at_K
      go_wp2
      go_loopw [6, 8] (fun t i wr => ∃ (k gq cap : Nat), k ≤ xs.length ∧ i = .int .i64 k ∧ t = .slice (some ⟨gq, 0, none⟩) k cap ∧ wr.ownsRow w.heap.size 3 1 t k ((xs.take k).map fun x => .int .i64 (x % n)) ∧ gq ≠ gs ∧ wr.heap[gs]? = some (.cells (Array.replicate n (Value.int .i64 0)) 3 (0, 0)) ∧ Below w.heap.size w wr) (fun _ i _ => xs.length - (intOf i).toNat)
      case atStart => exact ⟨0, g, 0, Nat.zero_le _, rfl, rfl, own0, hne, hgs1, HB.out⟩
      case round =>
        obtain ⟨k, gq, cap, hk, rfl, rfl, hown, hq, hgsr, hbr⟩ := hrel
        by_cases hlt : k < xs.length
        · obtain ⟨b0, off, rfl, hbw0, hcells⟩ := HC.out (by omega)
          obtain ⟨x, hxk⟩ := get_some hlt
          have hck : wr.cell? ⟨b0, off + k, none⟩ = some (.int .u8 x) := (hbr.cell (p := ⟨b0, off + k, none⟩) hbw0).trans (hcells k x hxk)
          have hx1 := hx x (List.mem_of_getElem? hxk)
          have hx2 := hx1.1
          have hx3 := hx1.2
          have Hs := Lib.hid (take_snoc hxk)
          have HO := Lib.hid hown
          have HGS := Lib.hid hgsr
          clear hcells hxk hx1 hown hgsr
          go_wp2_with (at_builtin; refine wpList_append_own_at _ rfl _ _ _ rfl w.heap.size 3 i0 (.int .i64 0) 1 8 Tryd.underlying33 hi hz0 hz1 hz2 rfl Nat.one_pos (.slice (some ⟨gq, 0, none⟩) k cap) k ((xs.take k).map fun x => .int .i64 (x % n)) rfl ?own ⟨wr.heap.size, 0, none⟩ 1 1 [.int .i64 (x % n)] rfl rfl ?hnews ?h1 ?h63 ?hb ?base ?_)
          case own => exact (HO.out).alloc _
          case hnews => exact cell_one_new _ _ _
          case h1 => intro u hu; simp at hu; subst hu; rfl
          case h63 => simp [maxLen]; omega
          case hb => omega
          case base => have := hbr.size; simp; omega
          intro v' W' hown' hgrow hnil hat
          obtain ⟨gq', cap', rfl⟩ : ∃ gq' cap', v' = .slice (some ⟨gq', 0, none⟩) (k + 1) cap' := ownsRow_succ hown'
          go_wp2
          go_roundw
          case rel =>
            have hgl := lt_of_heap HGS.out
            have hg' : gq' ≠ gs := by
              simp only [Value.ownBlock, Option.some.injEq] at hat
              rcases hat with hat | hat
              · omega
              · first | omega | (rw [alloc_sz] at hat; omega)
            refine ⟨k + 1, gq', cap', by omega, by simp, rfl, ?_, hg', ?_, ?_⟩
            · rw [Hs.out]; simpa using hown'
            · exact (hgrow.block gs (by simp; omega) (by simp [Value.ownBlock]; omega)).trans ((Below.heap_alloc _ _ _ hgl).trans HGS.out)
            · refine (hbr.alloc hbr.size _).grown hgrow (by have := hbr.size; simp; omega) (fun q e => ((HO.out).lt q e).1)
          case measure => simp [intOf]; omega
        · obtain rfl : k = xs.length := by omega
          rw [List.take_length] at hown
          have hG : (List.map (fun x => Value.int IntKind.i64 (x % (n : Int))) xs) = (xs.map fun x => x % (n : Int)).map (Value.int .i64) := by rw [List.map_map]; rfl
          rw [hG] at hown
          obtain ⟨G, hGe⟩ : ∃ G, G = xs.map fun x => x % (n : Int) := ⟨_, rfl⟩
          rw [← hGe] at hown
          have hGl : G.length = xs.length := by rw [hGe]; simp
          have hGb : ∀ x ∈ G, 0 ≤ x ∧ x ≤ (n : Int) - 1 := by
            intro x hx'
            rw [hGe] at hx'
            obtain ⟨y, _, rfl⟩ := List.mem_map.1 hx'
            have := Int.emod_nonneg y (show (n : Int) ≠ 0 by omega)
            have := Int.emod_lt_of_pos y (show (0 : Int) < n by omega)
            omega
          have hseen : wr.heap[gs]? = some (.cells ((seenL n G.sum 0).map (Value.int .i64)).toArray 3 (0, 0)) := by
            rw [hgsr, seen_zero]; simp
          generalize hlx : xs.length = len at *
          have HO := Lib.hid hown; have HS := Lib.hid hseen; have HGl := Lib.hid hGl; have HGb := Lib.hid hGb
          clear hown hseen hgsr hG hGe hGl hGb own0 hgs1 HC hx hlx
          go_wp2
          go_loopw [9] (fun i wr => ∃ v : Nat, v ≤ n ∧ i = .int .i64 v ∧ wr.ownsRow w.heap.size 3 1 (.slice (some ⟨gq, 0, none⟩) len cap) len (G.map (Value.int .i64)) ∧ wr.heap[gs]? = some (.cells ((seenL n G.sum v).map (Value.int .i64)).toArray 3 (0, 0)) ∧ Below w.heap.size w wr) (fun i _ => n - (intOf i).toNat)
          case atStart => exact ⟨0, Nat.zero_le _, rfl, HO.out, HS.out, hbr⟩
          case round =>
            clear HO HS hbr
            obtain ⟨v, hv, rfl, hown, hseen, hbq⟩ := hrel
            by_cases hvn : v < n
            · have HO := Lib.hid hown; have HS := Lib.hid hseen
              clear hown hseen
              go_wp2_with (at_builtin; refine wpList_append_own_at _ rfl _ _ _ rfl w.heap.size 3 i0 (.int .i64 0) 1 8 Tryd.underlying33 hi hz0 hz1 hz2 rfl Nat.one_pos (.slice (some ⟨wr.heap.size, 0, none⟩) 0 0) 0 [] rfl ?own ⟨gq, 0, none⟩ len cap (G.map (Value.int .i64)) rfl ?hl ?hnews ?h1 ?h63 ?hb ?base ?_)
              case own =>
                have := World.alloc_heap_new wr (Obj.cells #[] 3)
                exact own_empty hbq.size this
              case hl => simp [HGl.out]
              case hnews => exact ((HO.out).alloc _).cells rfl
              case h1 => exact ints_oneCell .i64 G
              case h63 => simp [maxLen]; omega
              case hb => omega
              case base => have := hbq.size; rw [alloc_sz]; omega
              intro v' W' hown' hgrow hnil hat
              have hown2 : W'.ownsRow w.heap.size 3 1 v' G.length (G.map (Value.int .i64)) := by rw [HGl.out]; simpa using hown'
              have hsz1 := hgrow.size
              rw [alloc_sz] at hsz1
              have hgl := lt_of_heap HS.out
              have hgs2 : W'.heap[gs]? = some (.cells ((seenL n G.sum v).map (Value.int .i64)).toArray 3 (0, 0)) := (hgrow.block gs (by rw [alloc_sz]; omega) (by simp [Value.ownBlock]; omega)).trans ((Below.heap_alloc _ _ _ hgl).trans HS.out)
              have hown3 : W'.ownsRow w.heap.size 3 1 (.slice (some ⟨gq, 0, none⟩) len cap) len (G.map (Value.int .i64)) := ((HO.out).alloc _).kept hgrow (by right; have := ((HO.out).lt gq rfl).2; simp [Value.ownBlock]; omega)
              have hb' : Below w.heap.size w W' := (hbq.alloc hbq.size _).grown hgrow (by have := hbq.size; rw [alloc_sz]; omega) (fun q e => by simp [Value.ownBlock] at e; have := hbq.size; omega)
              have HA := Lib.hid hown2; have HB' := Lib.hid hgs2; have HC' := Lib.hid hown3
              clear hown' hgrow hnil hat hown2 hgs2 hown3 HO HS
              go_wp2_with fail
              refine (split_any (v : Int) (n : Int) v' G _ (Sl.ofOwn HA.out) (by rw [HGl.out]; omega)).mono ?_
              rw [splitR_sum (by omega) (by omega) (by omega) (by omega) G (by rw [HGl.out]; omega) HGb.out]
              rintro e W2 ⟨v3, rfl, hsp, hb2⟩
              have hlen : (G ++ [lastS v n G]).length = len + 1 := by simp [HGl.out]
              rw [hlen] at hsp
              obtain ⟨g3, cap3, rfl⟩ := ownsRow_succ hsp
              obtain ⟨l, hl'⟩ := Int.eq_ofNat_of_zero_le (lastS_bd (v := v) (below := n) (by omega) G).1
              obtain ⟨hln, hsee, hset⟩ := seen_at hn2 hvn hl'
              have hcb := combine_split (v := v) (below := n) (by omega) (by omega) (by omega) (by omega) G (by rw [HGl.out]; omega) HGb.out
              rw [hl'] at hsp hcb
              have hc3 : W2.cell? ⟨g3, len, none⟩ = some (.int .i64 l) := by
                rw [hsp.cellAt len (by omega), List.getElem?_map, List.getElem?_append_right (by rw [HGl.out]; omega), HGl.out]
                simp
              have hs2 : W2.heap[gs]? = some (.cells ((seenL n G.sum v).map (Value.int .i64)).toArray 3 (0, 0)) := (hb2.block _ (lt_of_heap HB'.out)).trans HB'.out
              have hcs : W2.cell? ⟨gs, l, none⟩ = some (.int .i64 0) := (cell_of_heap hs2).trans (by simp [hsee])
              have hfs : W2.frozen? ⟨gs, l, none⟩ = false := free_of_heap hs2
              have hg3 : gs ≠ g3 := by
                have := (hsp.lt g3 rfl).1
                have := lt_of_heap HB'.out
                omega
              have hg3' : g3 ≠ gs := Ne.symm hg3
              have hl0 : ((l : Int) < 0) = False := by simp
              have hn0' : ((n : Int) ≤ l) = False := by simp; omega
              have hg3w : g3 < W2.heap.size := (hsp.lt g3 rfl).2
              have hgs2 : gs < W2.heap.size := lt_of_heap hs2
              have hq2 : gq < W2.heap.size := ((own_below HC'.out hb2).lt gq rfl).2
              have HS2 := Lib.hid hs2; have HSP := Lib.hid hsp; have HSet := Lib.hid hset; have HCB := Lib.hid hcb; have HOW := Lib.hid (own_below HC'.out hb2)
              have hbW2 : Below w.heap.size w W2 := hb'.trans (hb2.mono hb'.size)
              clear hs2 hsp hset hcb hsee hl' HA HB' HC' hlen
              simp only
              go_wp2
              obtain ⟨W3, hW3⟩ : ∃ W3, W3 = (W2.setCell ⟨gs, l, none⟩ (.int .i64 1)).alloc (Obj.cells #[] 3) := ⟨_, rfl⟩
              rw [← hW3]
              have z3 : W3.heap.size = W2.heap.size + 1 := by rw [hW3]; simp
              have hbW3 : Below w.heap.size w W3 := by rw [hW3]; exact (hbW2.setCell (by simp; omega) _).alloc (by have := hbW2.size; simp; omega) _
              have hs3 : W3.heap[gs]? = some (.cells ((seenL n G.sum (v + 1)).map (Value.int .i64)).toArray 3 (0, 0)) := by
                rw [hW3, ← HSet.out]
                refine (Below.heap_alloc _ _ gs (by have := lt_of_heap HS2.out; simpa using this)).trans ((setCell_heap HS2.out _).trans ?_)
                simp [List.map_set]
              have hsp3 : W3.ownsRow W'.heap.size 3 1 (.slice (some ⟨g3, 0, none⟩) (len + 1) cap3) (len + 1) ((G ++ [(l : Int)]).map (Value.int .i64)) := by rw [hW3]; exact (own_setCell HSP.out hg3 _).alloc _
              have how3 : W3.ownsRow w.heap.size 3 1 (.slice (some ⟨gq, 0, none⟩) len cap) len (G.map (Value.int .i64)) := by rw [hW3]; exact (own_setCell HOW.out (Ne.symm hq) _).alloc _
              have how0 : W3.ownsRow W2.heap.size 3 1 (.slice (some ⟨W2.heap.size, 0, none⟩) 0 0) 0 [] := by
                refine own_empty (Nat.le_refl _) ?_
                have := World.alloc_heap_new (W2.setCell ⟨gs, l, none⟩ (.int .i64 1)) (Obj.cells #[] 3)
                rw [hW3]; simpa [World.setCell] using this
              have hGlen : (G ++ [(l : Int)]).length = len + 1 := by simp [HGl.out]
              generalize G ++ [(l : Int)] = F at *
              have HS3 := Lib.hid hs3; have HSP3 := Lib.hid hsp3; have HOW3 := Lib.hid how3; have HO0 := Lib.hid how0; have HF := Lib.hid hGlen
              clear hW3 hs3 hsp3 how3 how0 hc3 hcs hfs hl0 hn0' HS2 HSP HOW HSet hGlen
              go_loopw [13, 14] (fun t i wr => ∃ (m gt capt : Nat), m ≤ len + 1 ∧ i = .int .i64 ((len : Int) - m) ∧ t = .slice (some ⟨gt, 0, none⟩) m capt ∧ wr.ownsRow W2.heap.size 3 1 t m ((F.reverse.take m).map (Value.int .i64)) ∧ Below W2.heap.size W3 wr) (fun _ i _ => (intOf i + 1).toNat)
              case atStart => exact ⟨0, W2.heap.size, 0, Nat.zero_le _, by simp, rfl, HO0.out, Below.refl _ _⟩
              case round =>
                clear HO0
                obtain ⟨m, gt, capt, hm, rfl, rfl, hown, hbr⟩ := hrel
                by_cases hml : m ≤ len
                · obtain ⟨j, hj⟩ : ∃ j : Nat, len = j + m := ⟨len - m, by omega⟩
                  have hji : (len : Int) - m = (j : Int) := by omega
                  rw [hji]
                  obtain ⟨x, hx⟩ := get_some (xs := F) (k := j) (by rw [HF.out]; omega)
                  have hcx : wr.cell? ⟨g3, j, none⟩ = some (.int .i64 x) := by
                    refine (hbr.cell (p := ⟨g3, j, none⟩) hg3w).trans (((HSP3.out).cellAt j (by omega)).trans ?_)
                    rw [List.getElem?_map, hx]; rfl
                  have hrv : F.reverse[m]? = some x := by
                    rw [List.getElem?_reverse (by rw [HF.out]; omega), HF.out, show len + 1 - 1 - m = j by omega]; exact hx
                  have Hs := Lib.hid (take_snoc hrv); have HO := Lib.hid hown; have Hji := Lib.hid hji
                  have hjl : j < len + 1 := by omega
                  clear hx hrv hown hji hj
                  go_wp2_with (at_builtin; refine wpList_append_own_at _ rfl _ _ _ rfl W2.heap.size 3 i0 (.int .i64 0) 1 8 Tryd.underlying33 hi hz0 hz1 hz2 rfl Nat.one_pos (.slice (some ⟨gt, 0, none⟩) m capt) m ((F.reverse.take m).map (Value.int .i64)) rfl ?own ⟨wr.heap.size, 0, none⟩ 1 1 [.int .i64 x] rfl rfl ?hnews ?h1 ?h63 ?hb ?base ?_)
                  case own => exact (HO.out).alloc _
                  case hnews => exact cell_one_new _ _ _
                  case h1 => intro u hu; simp at hu; subst hu; rfl
                  case h63 => simp [maxLen]; omega
                  case hb => omega
                  case base => have := hbr.size; rw [alloc_sz]; omega
                  intro v'' W'' hown' hgrow hnil hat
                  obtain ⟨gt', capt', rfl⟩ := ownsRow_succ hown'
                  have hsw := hbr.size
                  have hgb := ((HO.out).lt gt rfl).1
                  go_wp2
                  go_roundw
                  case rel =>
                    refine ⟨m + 1, gt', capt', by omega, by have := Hji.out; go_num, rfl, ?_, ?_⟩
                    · rw [Hs.out]; simpa using hown'
                    · exact (hbr.alloc (by omega) _).grown hgrow (by rw [alloc_sz]; omega) (fun q e => by simp [Value.ownBlock] at e; omega)
                  case measure => simp only [intOf]; omega
                · obtain rfl : m = len + 1 := by omega
                  have hji : (len : Int) - ((len + 1 : Nat) : Int) = -1 := by omega
                  rw [hji]
                  have htk : F.reverse.take (len + 1) = F.reverse := List.take_of_length_le (by rw [List.length_reverse, HF.out]; exact Nat.le_refl _)
                  rw [htk] at hown
                  have hsw := hbr.size
                  have hbWr : Below w.heap.size w wr := hbW3.trans (hbr.mono hbW2.size)
                  have hA : Sl (Value.int .i64) wr (.slice (some ⟨g3, 0, none⟩) (len + 1) cap3) F := by
                    have : wr.ownsRow W'.heap.size 3 1 (.slice (some ⟨g3, 0, none⟩) (len + 1) cap3) F.length (F.map (Value.int .i64)) := by
                      rw [HF.out]; exact own_keep HSP3.out hbr hg3w
                    rw [← HF.out] at this ⊢
                    exact Sl.ofOwn this
                  have hB : Sl (Value.int .i64) wr (.slice (some ⟨gt, 0, none⟩) (len + 1) capt) F.reverse := by
                    have hFr : F.reverse.length = len + 1 := by rw [List.length_reverse, HF.out]
                    rw [← hFr] at hown ⊢
                    exact Sl.ofOwn hown
                  have HA := Lib.hid hA; have HB2 := Lib.hid hB; have HO := Lib.hid hown
                  clear hA hB hown htk hji
                  go_wp2_with fail
                  refine (combine_any n _ F _ HA.out (by rw [HF.out]; omega)).mono ?_
                  rw [HCB.out.1]
                  rintro e w' ⟨rfl, rfl⟩
                  go_wp2_with fail
                  refine (combine_any n _ F.reverse _ HB2.out (by rw [List.length_reverse, HF.out]; omega)).mono ?_
                  rw [HCB.out.2]
                  rintro e w' ⟨rfl, rfl⟩
                  go_wp2
                  go_roundw
                  case rel =>
                    refine ⟨v + 1, by omega, by simp, own_keep HOW3.out hbr hq2, (hbr.block gs hgs2).trans HS3.out, hbWr⟩
                  case measure => simp [intOf]; omega
            · obtain rfl : v = n := by omega
              have hok : Ok wr := hw.below hbq
              have HSE := Lib.hid hseen
              clear hown hseen
              go_wp2
              go_loop [18] (fun i => ∃ k : Nat, k ≤ v ∧ i = .int .i64 k) (fun i => v - (intOf i).toNat)
              case atStart => exact ⟨0, Nat.zero_le _, rfl⟩
              case round =>
                obtain ⟨k, hk', rfl⟩ := hrel
                by_cases hkv : k < v
                · have hck : wr.cell? ⟨gs, k, none⟩ = some (.int .i64 1) := (cell_of_heap HSE.out).trans (by simp [seen_end _ hkv])
                  go_wp2
                  go_round
                  case rel => exact ⟨k + 1, by omega, by simp⟩
                  case measure => simp [intOf]; omega
                · obtain rfl : k = v := by omega
                  go_wp2_with (go_at_call 9; refine (known_any _ hok).mono ?_; rintro e w9 ⟨rfl, hb9⟩)
                  go_ret
                  exact ⟨rfl, hbq.trans (hb9.mono hbq.size)⟩
end Go.Proofs.YtcmpindjgfojaaaDoor
