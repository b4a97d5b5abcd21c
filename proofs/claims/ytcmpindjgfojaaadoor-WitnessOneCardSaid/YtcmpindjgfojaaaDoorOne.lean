/- Walks: WitnessOne. -/
import Derived.Test.YtcmpindjgfojaaaDoorDrawn
import Derived.Test.YtcmpindjgfojaaaDoorMiss
namespace Go.Proofs.YtcmpindjgfojaaaDoor
open Go.RowKit

/-- One person's value among the others', as the loop builds it. -/
def accL (G : List Int) (at' : Nat) (v : Int) : Nat → List Int
  | 0 => []
  | i + 1 => accL G at' v i ++ (if i = at' then [v] else []) ++ [G.getD i 0]
theorem accL_sum (G : List Int) (at' : Nat) (v : Int) : ∀ i, i ≤ G.length → (accL G at' v i).sum = (G.take i).sum + (if at' < i then v else 0)
  | 0, _ => by simp [accL]
  | i + 1, h => by
    have ih := accL_sum G at' v i (by omega)
    have hg : G[i]? = some (G.getD i 0) := by simp [List.getD, List.getElem?_eq_getElem (show i < G.length by omega)]
    rw [take_snoc hg]
    simp only [accL, List.sum_append, ih]
    by_cases h1 : i = at'
    · subst h1; simp; try omega
    · by_cases h2 : at' < i
      · simp [h1, h2, show at' < i + 1 by omega]; try omega
      · simp [h1, h2, show ¬ at' < i + 1 by omega]
theorem accL_len (G : List Int) (at' : Nat) (v : Int) : ∀ i, (accL G at' v i).length = i + (if at' < i then 1 else 0)
  | 0 => by simp [accL]
  | i + 1 => by
    have ih := accL_len G at' v i
    simp only [accL, List.length_append, ih]
    by_cases h1 : i = at'
    · subst h1; simp
    · by_cases h2 : at' < i
      · simp [h1, h2, show at' < i + 1 by omega]
      · simp [h1, h2, show ¬ at' < i + 1 by omega]
theorem accL_bd {G : List Int} {at' : Nat} {v m : Int} (hv : 0 ≤ v ∧ v ≤ m) (hG : ∀ x ∈ G, 0 ≤ x ∧ x ≤ m) (hm : 0 ≤ m) : ∀ i, ∀ x ∈ accL G at' v i, 0 ≤ x ∧ x ≤ m
  | 0, x, h => by simp [accL] at h
  | i + 1, x, h => by
    simp only [accL, List.mem_append] at h
    rcases h with (h | h) | h
    · exact accL_bd hv hG hm i x h
    · split at h
      · rw [List.mem_singleton.1 h]; exact hv
      · cases h
    · rw [List.mem_singleton.1 h]
      by_cases hi : i < G.length
      · exact hG _ (by simp [List.getD, List.getElem?_eq_getElem hi])
      · simp [List.getD, List.getElem?_eq_none (show G.length ≤ i by omega)]; exact hm
/-- The whole list. -/
def allL (G : List Int) (at' : Nat) (v : Int) : List Int := accL G at' v G.length ++ (if at' = G.length then [v] else [])
theorem allL_sum (G : List Int) (at' : Nat) (v : Int) (h : at' ≤ G.length) : (allL G at' v).sum = v + G.sum := by
  unfold allL
  rw [List.sum_append, accL_sum G at' v _ (Nat.le_refl _), List.take_length]
  by_cases h1 : at' = G.length
  · simp [h1]; omega
  · simp [h1, show at' < G.length by omega]; omega
theorem allL_len (G : List Int) (at' : Nat) (v : Int) (h : at' ≤ G.length) : (allL G at' v).length = G.length + 1 := by
  unfold allL
  rw [List.length_append, accL_len]
  by_cases h1 : at' = G.length
  · simp [h1]
  · simp [h1, show at' < G.length by omega]
theorem allL_bd {G : List Int} {at' : Nat} {v m : Int} (hv : 0 ≤ v ∧ v ≤ m) (hG : ∀ x ∈ G, 0 ≤ x ∧ x ≤ m) (hm : 0 ≤ m) : ∀ x ∈ allL G at' v, 0 ≤ x ∧ x ≤ m := by
  intro x h
  unfold allL at h
  rcases List.mem_append.1 h with h | h
  · exact accL_bd hv hG hm _ x h
  · split at h
    · rw [List.mem_singleton.1 h]; exact hv
    · cases h

set_option maxRecDepth 100000 in
set_option maxHeartbeats 4000000 in
theorem one_any (xs : List Int) (hh bb ss : Nat) (v : Value) (w : World) (hw : Ok w) (hv : Sl (.int .u8) w v xs) (hx : ∀ x ∈ xs, 0 ≤ x ∧ x ≤ 255) (hh1 : hh < 256) (hb1 : bb < 256) (hs1 : ss < 256) :
    Calls Tryd.prog 6 #[.agg #[v, .int .u8 hh, .int .u8 bb, .int .u8 ss]] w fun e w' => e = .returned (.bool true) ∧ Below w.heap.size w w' := by
  obtain ⟨a, c, rfl, hcap, hcell⟩ := hv
  obtain ⟨Wb, hWb⟩ : ∃ Wb, Wb = w.alloc (Obj.cells #[.slice a xs.length c, .int .u8 hh, .int .u8 bb, .int .u8 ss] 43) := ⟨_, rfl⟩
  have hbb : Below w.heap.size w Wb := by rw [hWb]; exact (Below.refl _ _).alloc (Nat.le_refl _) _
  have c0 : Wb.cell? ⟨w.heap.size, 0, none⟩ = some (.slice a xs.length c) := by rw [hWb]; simp [World.cell?_alloc_new]
  have c1 : Wb.cell? ⟨w.heap.size, 1, none⟩ = some (.int .u8 hh) := by rw [hWb]; simp [World.cell?_alloc_new]
  have c2 : Wb.cell? ⟨w.heap.size, 2, none⟩ = some (.int .u8 bb) := by rw [hWb]; simp [World.cell?_alloc_new]
  have c3 : Wb.cell? ⟨w.heap.size, 3, none⟩ = some (.int .u8 ss) := by rw [hWb]; simp [World.cell?_alloc_new]
  have HWb := Lib.hid hWb
  clear hWb
  have hok := hw.below hbb
  by_cases h5 : xs.length < 1 ∨ 5 < xs.length
  · have hfin : ∀ q, Below w.heap.size w (Wb.drewN q) := fun q => below_drewN hbb q
    rcases h5 with h5 | h5
    all_goals
      go_enter Tryd.func6, Tryd.ntmps6
      go_wp2
      rw [← HWb.out]
      go_quiet (fail)
      go_wp2_with fail
      refine (known_any _ (hw.below (hfin _))).mono ?_
      rintro e w9 ⟨rfl, hb9⟩
      go_wp2
      go_ret
      exact ⟨rfl, (hfin _).trans (hb9.mono (hfin _).size)⟩
  · have hl1 : 1 ≤ xs.length := by omega
    have hl2 : xs.length ≤ 5 := by omega
    have hn0 : 0 ≤ (bb : Int) % 12 := Int.emod_nonneg _ (by omega)
    have hn1 : (bb : Int) % 12 < 12 := Int.emod_lt_of_pos _ (by omega)
    have ha0 : 0 ≤ (hh : Int) % ((xs.length : Int) + 1) := Int.emod_nonneg _ (by omega)
    have ha1 : (hh : Int) % ((xs.length : Int) + 1) < (xs.length : Int) + 1 := Int.emod_lt_of_pos _ (by omega)
    obtain ⟨n, he⟩ := Int.eq_ofNat_of_zero_le (show 0 ≤ 1 + (bb : Int) % 12 by omega)
    obtain ⟨at', hea⟩ := Int.eq_ofNat_of_zero_le ha0
    have hn2 : 1 ≤ n := by omega
    have hn3 : n ≤ 12 := by omega
    have hat : at' ≤ xs.length := by omega
    have hmk := fun wx => make_ints (n := n) (by omega) wx
    obtain ⟨i0, hi, hz0, hz1, hz2⟩ := info_parts infoInt
    have HC := Lib.hid hcell
    clear hcell hn0 hn1 ha0 ha1 h5
    go_enter Tryd.func6, Tryd.ntmps6
    go_wp2
    rw [← HWb.out]
    go_quiet (fail)
    go_wp2
    obtain ⟨W1, hW1⟩ : ∃ W1, W1 = (Wb.alloc (Obj.cells (Array.replicate n (Value.int .i64 0)) 3)).drewN nq := ⟨_, rfl⟩
    have hW1s : W1.heap.size = Wb.heap.size + 1 := by rw [hW1]; simp
    have hb1W : Below w.heap.size w W1 := by rw [hW1]; exact below_drewN (hbb.alloc hbb.size _) nq
    have hgs1 : W1.heap[Wb.heap.size]? = some (.cells (Array.replicate n (Value.int .i64 0)) 3 (0, 0)) := by rw [hW1]; exact World.alloc_heap_new Wb _
    have hgsw : w.heap.size ≤ Wb.heap.size := hbb.size
    first
    | rw [← hW1]
    | (have hW1' : W1 = (Wb.drewN nq).alloc (Obj.cells (Array.replicate n (Value.int .i64 0)) 3) := hW1
       rw [← hW1'])
    generalize hgs : Wb.heap.size = gs at hgs1 hgsw hW1s ⊢
    clear hW1 hmk c0 c1 c2 c3 HWb hok hbb hgs
    obtain ⟨G, hGe⟩ : ∃ G, G = xs.map fun x => x % (n : Int) := ⟨_, rfl⟩
    have hGl : G.length = xs.length := by rw [hGe]; simp
    have hGb : ∀ x ∈ G, 0 ≤ x ∧ x ≤ (n : Int) - 1 := by
      intro x hx'
      rw [hGe] at hx'
      obtain ⟨y, _, rfl⟩ := List.mem_map.1 hx'
      have := Int.emod_nonneg y (show (n : Int) ≠ 0 by omega)
      have := Int.emod_lt_of_pos y (show (0 : Int) < n by omega)
      omega
    have hseen : W1.heap[gs]? = some (.cells ((seenL n [-G.sum].sum 0).map (Value.int .i64)).toArray 3 (0, 0)) := by
      rw [hgs1, seen_zero]; simp
    have HS := Lib.hid hseen; have HGe := Lib.hid hGe; have HGb := Lib.hid hGb; have HX := Lib.hid hx
    rw [hea]
    clear hseen hgs1 hGe hGb hx hea
    go_loopw [10] (fun i wr => ∃ v : Nat, v ≤ n ∧ i = .int .i64 v ∧ wr.heap[gs]? = some (.cells ((seenL n [-G.sum].sum v).map (Value.int .i64)).toArray 3 (0, 0)) ∧ Below w.heap.size w wr) (fun i _ => n - (intOf i).toNat)
    case atStart => exact ⟨0, Nat.zero_le _, rfl, HS.out, hb1W⟩
    case round =>
      clear HS
      obtain ⟨v, hv, rfl, hseen, hbq⟩ := hrel
      have hzq := hbq.size
      by_cases hvn : v < n
      · have HS := Lib.hid hseen
        clear hseen
        go_wp2
        obtain ⟨W3, hW3⟩ : ∃ W3, W3 = wr.alloc (Obj.cells #[] 3) := ⟨_, rfl⟩
        rw [← hW3]
        have how0 : W3.ownsRow wr.heap.size 3 1 (.slice (some ⟨wr.heap.size, 0, none⟩) 0 0) 0 [] := by
          rw [hW3]; exact own_empty (Nat.le_refl _) (World.alloc_heap_new wr _)
        have hb3 : Below wr.heap.size wr W3 := by rw [hW3]; exact (Below.refl _ _).alloc (Nat.le_refl _) _
        generalize hN : wr.heap.size = N at how0 hb3 hzq ⊢
        have HO0 := Lib.hid how0
        have hSE : ∀ W', Below N W3 W' → W'.heap[gs]? = some (.cells ((seenL n [-G.sum].sum v).map (Value.int .i64)).toArray 3 (0, 0)) := fun W' hb' => by
          have hgl := lt_of_heap HS.out
          exact (hb'.block gs (by omega)).trans ((hb3.block gs (by omega)).trans HS.out)
        have hBW : ∀ W', Below N W3 W' → Below w.heap.size w W' := fun W' hb' => (hbq.trans (hb3.mono hzq)).trans (hb'.mono hzq)
        have hOK : ∀ W', Below N W3 W' → Ok W' := fun W' hb' => hw.below (hBW W' hb')
        have HSE := Lib.hid hSE; have HBW := Lib.hid hBW; have HOK := Lib.hid hOK
        have hgsN : gs < N := by have := lt_of_heap HS.out; omega
        have hN3 : N ≤ W3.heap.size := by have := hb3.size; omega
        clear how0 hW3 hSE hBW hOK HS
        go_loopw [11, 12] (fun t i wx => ∃ (k gq cap : Nat), k ≤ xs.length ∧ i = .int .i64 k ∧ t = .slice (some ⟨gq, 0, none⟩) (accL G at' v k).length cap ∧ wx.ownsRow N 3 1 t (accL G at' v k).length ((accL G at' v k).map (Value.int .i64)) ∧ Below N W3 wx) (fun _ i _ => xs.length - (intOf i).toNat)
        case atStart => exact ⟨0, N, 0, Nat.zero_le _, rfl, rfl, HO0.out, Below.refl _ _⟩
        case round =>
          obtain ⟨k, gq, cap, hk, rfl, rfl, hown, hbr⟩ := hrel
          have hAl : (accL G at' v k).length ≤ 6 := by
            rw [accL_len]; split <;> omega
          by_cases hlt : k < xs.length
          · obtain ⟨b0, off, rfl, hbw0, hcells⟩ := HC.out (by omega)
            obtain ⟨x, hxk⟩ := get_some hlt
            have hck : wr.cell? ⟨b0, off + k, none⟩ = some (.int .u8 x) := ((HBW.out wr hbr).cell (p := ⟨b0, off + k, none⟩) hbw0).trans (hcells k x hxk)
            have hx1 := HX.out x (List.mem_of_getElem? hxk)
            have hx2 := hx1.1
            have hx3 := hx1.2
            have hGk : G.getD k 0 = x % (n : Int) := by rw [HGe.out]; simp [List.getD, hxk]
            have hnx : accL G at' v (k + 1) = accL G at' v k ++ (if k = at' then [(v : Int)] else []) ++ [x % (n : Int)] := by rw [← hGk]; rfl
            have HNX := Lib.hid hnx
            generalize accL G at' (v : Int) k = A at hown hAl HNX ⊢
            have HO := Lib.hid hown; have HBR := Lib.hid hbr
            clear hcells hxk hx1 hown hbr hGk hnx
            by_cases hka : k = at'
            · subst hka
              go_wp2_with (at_builtin; refine wpList_append_own_at _ rfl _ _ _ rfl N 3 i0 (.int .i64 0) 1 8 Tryd.underlying33 hi hz0 hz1 hz2 rfl Nat.one_pos (.slice (some ⟨gq, 0, none⟩) A.length cap) A.length (A.map (Value.int .i64)) rfl ?own1 ⟨wr.heap.size, 0, none⟩ 1 1 [.int .i64 v] rfl rfl ?hnews1 ?h11 ?h631 ?hb1 ?base1 ?_)
              case own1 => exact (HO.out).alloc _
              (try (case hnews1 => exact cell_one_new _ _ _))
              case h11 => first | (intro u hu; simp at hu; subst hu; rfl) | rfl
              case h631 => simp [maxLen]; omega
              case hb1 => omega
              case base1 => have := (HBR.out).size; first | omega | (rw [alloc_sz]; omega)
              intro v5 W5 hown5 hgrow5 _ _
              obtain ⟨g5, c5, rfl⟩ := ownsRow_succ hown5
              have hgl5 := ((HO.out).lt gq rfl).1
              have hbr5 : Below N W3 W5 := ((HBR.out).alloc (by have := (HBR.out).size; omega) _).grown hgrow5 (by have := (HBR.out).size; rw [alloc_sz]; omega) (fun q e => by simp [Value.ownBlock] at e; omega)
              have HO5 := Lib.hid hown5; have HBR5 := Lib.hid hbr5
              have hsz5 := hgrow5.size
              have hck5 : W5.cell? ⟨b0, off + k, none⟩ = some (.int .u8 x) := by
                refine ((hbr5.cell (p := ⟨b0, off + k, none⟩) (by simp only; omega)).trans ?_)
                exact ((HBR.out).cell (p := ⟨b0, off + k, none⟩) (by simp only; omega)).symm.trans hck
              clear hown5 hbr5
              go_wp2_with (at_builtin; refine wpList_append_own_at _ rfl _ _ _ rfl N 3 i0 (.int .i64 0) 1 8 Tryd.underlying33 hi hz0 hz1 hz2 rfl Nat.one_pos (.slice (some ⟨g5, 0, none⟩) (A.length + 1) c5) (A.length + 1) (A.map (Value.int .i64) ++ [.int .i64 v]) rfl ?own2 ⟨W5.heap.size, 0, none⟩ 1 1 [.int .i64 (x % (n : Int))] rfl rfl ?hnews2 ?h12 ?h632 ?hb2 ?base2 ?_)
              case own2 => exact (HO5.out).alloc _
              (try (case hnews2 => exact cell_one_new _ _ _))
              case h12 => first | (intro u hu; simp at hu; subst hu; rfl) | rfl
              case h632 => simp [maxLen]; omega
              case hb2 => omega
              case base2 => have := (HBR5.out).size; first | omega | (rw [alloc_sz]; omega)
              intro v6 W6 hown6 hgrow6 _ _
              obtain ⟨g6, c6, rfl⟩ := ownsRow_succ hown6
              have hgl6 := ((HO5.out).lt g5 rfl).1
              have hbr6 : Below N W3 W6 := ((HBR5.out).alloc (by have := (HBR5.out).size; omega) _).grown hgrow6 (by have := (HBR5.out).size; rw [alloc_sz]; omega) (fun q e => by simp [Value.ownBlock] at e; omega)
              go_wp2
              go_roundw
              case rel =>
                have hl : (accL G k (v : Int) (k + 1)).length = A.length + 1 + 1 := by rw [HNX.out]; simp
                refine ⟨k + 1, g6, c6, by omega, by simp, by rw [hl], ?_, hbr6⟩
                rw [hl, HNX.out]
                simpa using hown6
              case measure => simp [intOf]; omega
            · have hkai : ¬ (k : Int) = (at' : Int) := by omega
              go_wp2_with (at_builtin; refine wpList_append_own_at _ rfl _ _ _ rfl N 3 i0 (.int .i64 0) 1 8 Tryd.underlying33 hi hz0 hz1 hz2 rfl Nat.one_pos (.slice (some ⟨gq, 0, none⟩) A.length cap) A.length (A.map (Value.int .i64)) rfl ?own3 ⟨wr.heap.size, 0, none⟩ 1 1 [.int .i64 (x % (n : Int))] rfl rfl ?hnews3 ?h13 ?h633 ?hb3 ?base3 ?_)
              case own3 => exact (HO.out).alloc _
              (try (case hnews3 => exact cell_one_new _ _ _))
              case h13 => first | (intro u hu; simp at hu; subst hu; rfl) | rfl
              case h633 => simp [maxLen]; omega
              case hb3 => omega
              case base3 => have := (HBR.out).size; first | omega | (rw [alloc_sz]; omega)
              intro v6 W6 hown6 hgrow6 _ _
              obtain ⟨g6, c6, rfl⟩ := ownsRow_succ hown6
              have hgl6 := ((HO.out).lt gq rfl).1
              have hbr6 : Below N W3 W6 := ((HBR.out).alloc (by have := (HBR.out).size; omega) _).grown hgrow6 (by have := (HBR.out).size; rw [alloc_sz]; omega) (fun q e => by simp [Value.ownBlock] at e; omega)
              go_wp2
              go_roundw
              case rel =>
                have hl : (accL G at' (v : Int) (k + 1)).length = A.length + 1 := by rw [HNX.out, if_neg hka]; simp
                refine ⟨k + 1, g6, c6, by omega, by simp, by rw [hl], ?_, hbr6⟩
                rw [hl, HNX.out, if_neg hka]
                simpa using hown6
              case measure => simp [intOf]; omega
          · obtain rfl : k = xs.length := by omega
            have hLs := allL_sum G at' (v : Int) (by omega)
            have hLl := allL_len G at' (v : Int) (by omega)
            have hLb := allL_bd (G := G) (at' := at') (v := (v : Int)) (m := (n : Int) - 1) (by omega) HGb.out (by omega)
            have hAA : accL G at' (v : Int) xs.length ++ (if at' = xs.length then [(v : Int)] else []) = allL G at' v := by unfold allL; rw [hGl]
            rw [hGl] at hLl
            generalize allL G at' (v : Int) = L at hLs hLl hLb hAA
            generalize accL G at' (v : Int) xs.length = A at hown hAl hAA ⊢
            obtain ⟨l, hl'⟩ := Int.eq_ofNat_of_zero_le (lastS_bd (v := v) (below := n) (by omega) [-G.sum]).1
            have hls : L.sum % (n : Int) = (l : Int) := by rw [hLs, ← hl']; simp [lastS]
            obtain ⟨hln, hsee, hset⟩ := seen_at hn2 hvn hl'
            have HLB := Lib.hid hLb; have HLS := Lib.hid hls; have HSET := Lib.hid hset; have HSEE := Lib.hid hsee; have HAA := Lib.hid hAA; have HLL := Lib.hid hLl
            have HO := Lib.hid hown; have HBR := Lib.hid hbr
            have hL1 : 1 ≤ L.length := by omega
            have hL2 : L.length ≤ 30 := by omega
            have hl0 : ((l : Int) < 0) = False := by simp
            have hn0' : ((n : Int) ≤ l) = False := by simp; omega
            clear hLb hls hset hsee hAA hl' hLs hown hbr hLl
            have hTail : ∀ (W7 : World) (v7 : Value), Below N W3 W7 → Sl (.int .i64) W7 v7 L → Calls Tryd.prog 20 #[.int .i64 n, v7, .int .u8 ss] W7 (DrawnP W7 n L) := fun W7 v7 hb7 hS7 =>
              drawn_any n L v7 ss W7 (HOK.out _ hb7) hS7 hL1 hL2 (by omega) (by
                intro x hx; have := HLB.out x hx; omega) hs1
            have HT := Lib.hid hTail
            clear hTail
            by_cases hal : at' = xs.length
            · have hA7 : A ++ [(v : Int)] = L := by rw [← HAA.out, if_pos hal]
              have HA7 := Lib.hid hA7
              have hali : ((at' : Int) == (xs.length : Int)) = true := by simp; omega
              clear hA7 hal
              go_wp2_with (at_builtin; refine wpList_append_own_at _ rfl _ _ _ rfl N 3 i0 (.int .i64 0) 1 8 Tryd.underlying33 hi hz0 hz1 hz2 rfl Nat.one_pos (.slice (some ⟨gq, 0, none⟩) A.length cap) A.length (A.map (Value.int .i64)) rfl ?own4 ⟨wr.heap.size, 0, none⟩ 1 1 [.int .i64 v] rfl rfl ?hnews4 ?h14 ?h634 ?hb4 ?base4 ?_)
              case own4 => exact (HO.out).alloc _
              (try (case hnews4 => exact cell_one_new _ _ _))
              case h14 => first | (intro u hu; simp at hu; subst hu; rfl) | rfl
              case h634 => simp [maxLen]; omega
              case hb4 => omega
              case base4 => have := (HBR.out).size; first | omega | (rw [alloc_sz]; omega)
              intro v7 W7 hown7 hgrow7 _ _
              obtain ⟨g7, c7, rfl⟩ := ownsRow_succ hown7
              have hgl7 := ((HO.out).lt gq rfl).1
              have hb7 : Below N W3 W7 := ((HBR.out).alloc (by have := (HBR.out).size; omega) _).grown hgrow7 (by have := (HBR.out).size; rw [alloc_sz]; omega) (fun q e => by simp [Value.ownBlock] at e; omega)
              have hS7 : Sl (.int .i64) W7 (.slice (some ⟨g7, 0, none⟩) (A.length + 1) c7) L := by
                have hl7 : L.length = A.length + 1 := by rw [← HA7.out]; simp
                have hm7 : L.map (Value.int .i64) = A.map (Value.int .i64) ++ [.int .i64 v] := by rw [← HA7.out]; simp
                have := hown7
                rw [← hm7, ← hl7] at this
                rw [← hl7]
                exact Sl.ofOwn this
              have HS7 := Lib.hid hS7; have HB7 := Lib.hid hb7
              clear hown7 hgrow7 hS7 hb7
              go_wp2_with fail
              refine (HT.out _ _ HB7.out HS7.out).mono ?_
              rintro e W8 ⟨d, pb, lb, cap8, D, rfl, hD, hb8, hdv, hval, hpl, hbl⟩
              have hb78 : Below N W3 W8 := (HB7.out).trans (hb8.mono (by have := (HB7.out).size; omega))
              rw [HLS.out] at hval
              have HV := Lib.hid hval; have HDV := Lib.hid hdv; have HPL := Lib.hid hpl; have HBL := Lib.hid hbl
              clear hval hdv hpl hbl
              go_wp2_with fail
              refine (value_any hD (by rw [HPL.out]; exact hL2) (by rw [HBL.out]; omega) (by rw [HBL.out]; omega)).mono ?_
              rw [HV.out]
              rintro e W9 ⟨rfl, hb9⟩
              have hD9 := hD.below hb9
              have hb79 : Below N W3 W9 := hb78.trans (hb9.mono (by have := hb78.size; omega))
              simp only
              go_wp2_with fail
              refine (deviants_nil hD9 (by rw [HPL.out]; exact hL2) HDV.out).mono ?_
              rintro e W10 ⟨rfl, hb10⟩
              have hb710 : Below N W3 W10 := hb79.trans (hb10.mono (by have := hb79.size; omega))
              have hs10 := HSE.out W10 hb710
              have hcs : W10.cell? ⟨gs, l, none⟩ = some (.int .i64 0) := (cell_of_heap hs10).trans (by rw [List.getElem?_toArray, List.getElem?_map, HSEE.out]; rfl)
              have hfs : W10.frozen? ⟨gs, l, none⟩ = false := free_of_heap hs10
              have HS10 := Lib.hid hs10; have HB10 := Lib.hid hb710
              clear hs10 hb710 hb79 hb78 hD hD9 hb8 hb9 hb10
              go_wp2
              go_roundw
              case rel =>
                refine ⟨v + 1, by omega, by simp, ?_, ((HBW.out W10 HB10.out).setCell (by simp; omega) _)⟩
                refine (setCell_heap HS10.out _).trans ?_
                rw [← HSET.out]
                simp [List.map_set]
              case measure => simp [intOf]; omega
            · have hA7 : A = L := by rw [← HAA.out, if_neg hal]; simp
              subst hA7
              have hali : ¬ (at' : Int) = (xs.length : Int) := by omega
              have hS7 := Sl.ofOwn HO.out
              have HS7 := Lib.hid hS7; have HB7 := Lib.hid HBR.out
              clear hS7 hal
              go_wp2_with fail
              refine (HT.out _ _ HB7.out HS7.out).mono ?_
              rintro e W8 ⟨d, pb, lb, cap8, D, rfl, hD, hb8, hdv, hval, hpl, hbl⟩
              have hb78 : Below N W3 W8 := (HB7.out).trans (hb8.mono (by have := (HB7.out).size; omega))
              rw [HLS.out] at hval
              have HV := Lib.hid hval; have HDV := Lib.hid hdv; have HPL := Lib.hid hpl; have HBL := Lib.hid hbl
              clear hval hdv hpl hbl
              go_wp2_with fail
              refine (value_any hD (by rw [HPL.out]; exact hL2) (by rw [HBL.out]; omega) (by rw [HBL.out]; omega)).mono ?_
              rw [HV.out]
              rintro e W9 ⟨rfl, hb9⟩
              have hD9 := hD.below hb9
              have hb79 : Below N W3 W9 := hb78.trans (hb9.mono (by have := hb78.size; omega))
              simp only
              go_wp2_with fail
              refine (deviants_nil hD9 (by rw [HPL.out]; exact hL2) HDV.out).mono ?_
              rintro e W10 ⟨rfl, hb10⟩
              have hb710 : Below N W3 W10 := hb79.trans (hb10.mono (by have := hb79.size; omega))
              have hs10 := HSE.out W10 hb710
              have hcs : W10.cell? ⟨gs, l, none⟩ = some (.int .i64 0) := (cell_of_heap hs10).trans (by rw [List.getElem?_toArray, List.getElem?_map, HSEE.out]; rfl)
              have hfs : W10.frozen? ⟨gs, l, none⟩ = false := free_of_heap hs10
              have HS10 := Lib.hid hs10; have HB10 := Lib.hid hb710
              clear hs10 hb710 hb79 hb78 hD hD9 hb8 hb9 hb10
              go_wp2
              go_roundw
              case rel =>
                refine ⟨v + 1, by omega, by simp, ?_, ((HBW.out W10 HB10.out).setCell (by simp; omega) _)⟩
                refine (setCell_heap HS10.out _).trans ?_
                rw [← HSET.out]
                simp [List.map_set]
              case measure => simp [intOf]; omega
      · obtain rfl : v = n := by omega
        have hok : Ok wr := hw.below hbq
        have HSE := Lib.hid hseen
        clear hseen
        go_wp2
        go_loop [18] (fun i => ∃ k : Nat, k ≤ v ∧ i = .int .i64 k) (fun i => v - (intOf i).toNat)
        case atStart => exact ⟨0, Nat.zero_le _, rfl⟩
        case round =>
          obtain ⟨k, hk', rfl⟩ := hrel
          by_cases hkv : k < v
          · have hck : wr.cell? ⟨gs, k, none⟩ = some (.int .i64 1) := (cell_of_heap HSE.out).trans (by simp [seen_end _ hkv])
            go_wp2
            go_round
            case rel => exact ⟨k + 1, by omega, by simp⟩
            case measure => simp [intOf]; omega
          · obtain rfl : k = v := by omega
            go_wp2_with (go_at_call 9; refine (known_any _ hok).mono ?_; rintro e w9 ⟨rfl, hb9⟩)
            go_ret
            exact ⟨rfl, hbq.trans (hb9.mono hbq.size)⟩
end Go.Proofs.YtcmpindjgfojaaaDoor
