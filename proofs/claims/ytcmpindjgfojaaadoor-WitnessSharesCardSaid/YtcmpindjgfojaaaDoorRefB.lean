/- Walks: the reference's Split; WitnessShares. -/
import Derived.Test.YtcmpindjgfojaaaDoorRefA
import Derived.Test.YtcmpindjgfojaaaDoorMiss
namespace Go.Proofs.YtcmpindjgfojaaaDoor
open Go.RowKit

/-- What append gives of an empty slice of one's own and one that came in. -/
theorem wp_append_in {o : Oper} {a : Act} {K : Act → World → Prop} {Q : Exit → Act → World → Prop} (w : World) (s x : Operand)
    (ho : o.op = .call { callee := .builtin .append, args := #[s, x], argTypes := #[33, 33] }) (B g : Nat) (hs : a.eval s = .slice (some ⟨g, 0, none⟩) 0 0)
    (hown : w.ownsRow B 3 1 (.slice (some ⟨g, 0, none⟩) 0 0) 0 []) (v : Value) (xs : List Int) (hx : a.eval x = v) (hv : Sl (.int .i64) w v xs) (hn : v = .slice none 0 0 ∨ ∃ ad n c, v = .slice (some ad) n c)
    (hl : xs.length ≤ 1000000) (hB : B ≤ w.heap.size)
    (h : ∀ v' w', w'.ownsRow B 3 1 v' xs.length (xs.map (.int .i64)) → w.grownBy w' (some g) → (∃ g' c, v' = .slice (some ⟨g', 0, none⟩) xs.length c ∧ (g' = g ∨ g' = w.heap.size)) → K (a.put o.dst v') w') :
    Oper.wp Tryd.prog o a w K Q := by
  obtain ⟨i0, hi, hz0, hz1, hz2⟩ := info_parts infoInt
  rcases hn with rfl | ⟨ad, n, c, rfl⟩
  · obtain ⟨a', c', e, _, _⟩ := hv
    simp only [Value.slice.injEq] at e
    have h0 : xs = [] := List.eq_nil_of_length_eq_zero e.2.1.symm
    subst h0
    have hrun := run_append_owned_none (P := Tryd.prog) w B 33 o.type 3 i0 1 Tryd.underlying33 hi _ 0 [] hown
    unfold Oper.wp
    simp [execOp, ho, resolve, invoke, builtin, hs, hx, hrun, Result.andThen]
    exact h _ w (by simpa using hown) (World.grownBy.refl _ _) ⟨g, 0, rfl, .inl rfl⟩
  · obtain ⟨a', c', e, hc', hcell⟩ := hv
    simp only [Value.slice.injEq] at e
    obtain ⟨rfl, rfl, rfl⟩ := e
    have hnews : ∀ j u, (xs.map (Value.int .i64))[j]? = some u → w.cell? (ad.add j) = some u := by
      intro j u hj
      rw [List.getElem?_map] at hj
      obtain ⟨y, hy, rfl⟩ := Option.map_eq_some_iff.1 hj
      obtain ⟨b, off, e, _, h2⟩ := hcell (by have := (List.getElem?_eq_some_iff.1 hy).1; omega)
      obtain rfl := Option.some.inj e
      rw [Addr.add_lit]
      exact h2 j y hy
    obtain ⟨v', w', hr, h1, h2, h3, h4⟩ := run_append_own_at (P := Tryd.prog) w B 33 o.type 3 i0 (.int .i64 0) 1 8 Tryd.underlying33 hi hz0 hz1 hz2 rfl Nat.one_pos _ 0 [] hown ad xs.length c (xs.map (.int .i64)) (by simp) hnews (ints_oneCell .i64 xs) (by simp [maxLen]; omega) (by omega) hB
    have h5 : w'.ownsRow B 3 1 v' xs.length (xs.map (.int .i64)) := by simpa using h1
    unfold Oper.wp execOp
    simp only [ho, resolve, invoke, builtin, Sem.run_bind, Sem.run_pure, Result.andThen_ok, List.map_toArray, List.map_cons, List.map_nil, hs, hx, hr]
    refine h v' w' h5 h2 ?_
    rcases h5.2 with ⟨hnil, _⟩ | ⟨g', c, cur, hv2, _⟩
    · exact absurd (h3.1 hnil).1 (by simp)
    · refine ⟨g', c, hv2, ?_⟩
      rw [hv2] at h4
      simp only [Value.ownBlock, Option.some.injEq] at h4
      exact h4
theorem step_append_in {ops : Array Oper} {o : Oper} {a : Act} {K : Act → World → Prop} {Q : Exit → Act → World → Prop} {E : Prop} (w : World) (hgd : o.guard = none) (s x : Operand)
    (ho : o.op = .call { callee := .builtin .append, args := #[s, x], argTypes := #[33, 33] }) (B g : Nat) (hs : a.eval s = .slice (some ⟨g, 0, none⟩) 0 0)
    (hown : w.ownsRow B 3 1 (.slice (some ⟨g, 0, none⟩) 0 0) 0 []) (v : Value) (xs : List Int) (hx : a.eval x = v) (hv : Sl (.int .i64) w v xs) (hn : v = .slice none 0 0 ∨ ∃ ad n c, v = .slice (some ad) n c)
    (hl : xs.length ≤ 1000000) (hB : B ≤ w.heap.size)
    (h : ∀ v' w', w'.ownsRow B 3 1 v' xs.length (xs.map (.int .i64)) → w.grownBy w' (some g) → (∃ g' c, v' = .slice (some ⟨g', 0, none⟩) xs.length c ∧ (g' = g ∨ g' = w.heap.size)) → K (a.put o.dst v') w') :
    if Region.wanted o (yielded ops a.tmps) = true then Oper.wp Tryd.prog o a w K Q else E := by
  have hw : Region.wanted o (yielded ops a.tmps) = true := by simp [Region.wanted, hgd]
  rw [if_pos hw]
  exact wp_append_in w s x ho B g hs hown v xs hx hv hn hl hB h
theorem wpList_append_in {ops : Array Oper} {rest : List Oper} {o : Oper} {a : Act} {Q : Exit → Act → World → Prop} (w : World) (hgd : o.guard = none) (s x : Operand)
    (ho : o.op = .call { callee := .builtin .append, args := #[s, x], argTypes := #[33, 33] }) (B g : Nat) (hs : a.eval s = .slice (some ⟨g, 0, none⟩) 0 0)
    (hown : w.ownsRow B 3 1 (.slice (some ⟨g, 0, none⟩) 0 0) 0 []) (v : Value) (xs : List Int) (hx : a.eval x = v) (hv : Sl (.int .i64) w v xs) (hn : v = .slice none 0 0 ∨ ∃ ad n c, v = .slice (some ad) n c)
    (hl : xs.length ≤ 1000000) (hB : B ≤ w.heap.size)
    (h : ∀ v' w', w'.ownsRow B 3 1 v' xs.length (xs.map (.int .i64)) → w.grownBy w' (some g) → (∃ g' c, v' = .slice (some ⟨g', 0, none⟩) xs.length c ∧ (g' = g ∨ g' = w.heap.size)) → wpList Tryd.prog ops Q rest (a.put o.dst v') w') :
    wpList Tryd.prog ops Q (o :: rest) a w :=
  wpList_plain hgd fun _ hK => wp_append_in w s x ho B g hs hown v xs hx hv hn hl hB fun v' w' h1 h2 h3 => hK _ _ (h v' w' h1 h2 h3)

theorem splitR_len (value below : Int) (xs : List Int) : (splitR value below xs).1.length ≤ xs.length + 1 := by
  unfold splitR
  split
  · simp
  · split <;> simp
theorem rsplit_last {value below n : Int} (h1 : 1 ≤ below) (h2 : 0 ≤ value ∧ value ≤ below - 1) (hn : 0 ≤ n ∧ n < below) :
    (addFrom below 0 [value, (below - n) % below]).getD 0 = (value - n + below) % below := by
  have hm0 : 0 ≤ (below - n) % below := Int.emod_nonneg _ (by omega)
  have hm1 : (below - n) % below < below := Int.emod_lt_of_pos _ (by omega)
  rw [addFrom_sum h1 _ 0 (Int.le_refl 0) (by omega) (by
    intro y hy
    rcases List.mem_cons.1 hy with rfl | hy
    · exact h2
    · obtain rfl := List.mem_singleton.1 hy
      omega)]
  simp only [List.sum_cons, List.sum_nil, Int.add_zero, Int.zero_add, Option.getD_some]
  rw [Int.add_emod_emod]
  congr 1
  omega

set_option maxRecDepth 100000 in
set_option maxHeartbeats 2000000 in
theorem rsplit_ok (value below : Int) (v : Value) (xs : List Int) (w : World) (hv : Sl (.int .i64) w v xs) (hn : v = .slice none 0 0 ∨ ∃ ad n c, v = .slice (some ad) n c) (hl : xs.length ≤ 1000000)
    (h1 : 1 ≤ below ∧ below ≤ 1000000000) (h2 : 0 ≤ value ∧ value ≤ below - 1) (n : Int) (n0 : 0 ≤ n) (n1 : n < below)
    (hc : Calls Tryd.prog 18 #[.int .i64 below, v] w fun x w' => x = .returned (.tuple #[.int .i64 n, .int .i64 0]) ∧ w = w') :
    Calls Tryd.prog 17 #[.int .i64 value, .int .i64 below, v] w (SplitP w (xs ++ [(value - n + below) % below], 0)) := by
  have h1a := h1.1
  have h1b := h1.2
  have h2a := h2.1
  have h2b := h2.2
  obtain ⟨i0, hi, hz0, hz1, hz2⟩ := info_parts infoInt
  have H1 := Lib.hid h1; have H2 := Lib.hid h2
  have HV := Lib.hid hv; have HN := Lib.hid hn
  clear h1 h2 hv hn
  go_enter Tryd.func17, Tryd.ntmps17
  go_wp2_with fail
  refine (in_yes _ _ _ _ H1.out).mono ?_
  rintro e w' ⟨rfl, rfl⟩
  go_wp2_with fail
  refine (in_yes _ _ _ _ H2.out).mono ?_
  rintro e w' ⟨rfl, rfl⟩
  go_wp2_with fail
  refine hc.mono ?_
  rintro e w' ⟨rfl, rfl⟩
  go_wp2_with fail
  have hxx : (value - n + below) % below = (value - n) % below := by simp
  rw [hxx]
  have hw1 : IntKind.i64.wrap (value - n) = value - n := by rw [IntKind.wrap_i64]; omega
  have hw2 : IntKind.i64.wrap (value - n + below) = value - n + below := by rw [IntKind.wrap_i64]; omega
  have hnz : ¬ below = 0 := by omega
  have htm : (value - n + below).tmod below = (value - n) % below := by rw [Int.tmod_eq_emod_of_nonneg (by omega), hxx]
  have hmb0 : 0 ≤ (value - n) % below := Int.emod_nonneg _ hnz
  have hmb1 : (value - n) % below < below := Int.emod_lt_of_pos _ (by omega)
  have hw3 : IntKind.i64.wrap ((value - n) % below) = (value - n) % below := by rw [IntKind.wrap_i64]; omega
  clear hxx
  go_region_law
    (first
    | (refine step_append_in _ rfl (.tmp 29) (.tmp 30) rfl w.heap.size (w.heap.size) (by simp [Act.eval, Act.put]) ?own v xs (by simp [Act.eval, Act.put]) ?sl HN.out ?hl ?hB ?_; (case own => first | exact own_empty (by omega) (World.alloc_heap_new w _) | exact own_empty (by omega) (two_a w _ _)); (case sl => first | exact HV.out.below (((Below.refl _ _).alloc (Nat.le_refl _) _).drew) | exact HV.out.below (two_below w _ _)); (case hl => exact hl); (case hB => first | (simp; done) | (simp; omega))
       rintro v' W' hown' hgrow ⟨g', c', rfl, hg'⟩
       have hsz' := hgrow.size)
    | (refine step_append_in _ rfl (.tmp 29) (.tmp 30) rfl w.heap.size (w.heap.size + 1) (by simp [Act.eval, Act.put]) ?own v xs (by simp [Act.eval, Act.put]) ?sl HN.out ?hl ?hB ?_; (case own => first | exact own_empty (by omega) (World.alloc_heap_new w _) | exact own_empty (by omega) (two_b w _ _)); (case sl => first | exact HV.out.below (((Below.refl _ _).alloc (Nat.le_refl _) _).drew) | exact HV.out.below (two_below w _ _)); (case hl => exact hl); (case hB => first | (simp; done) | (simp; omega))
       rintro v' W' hown' hgrow ⟨g', c', rfl, hg'⟩
       have hsz' := hgrow.size)
    | (refine step_append_lies _ rfl (.tmp 31) (.tmp 39) 33 rfl w.heap.size 3 i0 (.int .i64 0) 1 8 Tryd.underlying33 hi hz0 hz1 hz2 rfl Nat.one_pos (.slice (some ⟨g', 0, none⟩) xs.length c') xs.length (xs.map (.int .i64)) (by simp [Act.eval, Act.put]) ?own ⟨W'.heap.size, 0, none⟩ 1 1 [.int .i64 ((value - n) % below)] (by simp [Act.eval, Act.put]) rfl ?hnews ?h1 Nat.one_pos ?h63 ?hb ?base (W'.heap.size + 1) (by simp) ?_; (case own => exact (hown').alloc _); (case hnews => exact cell_one_new _ _ _); (case h1 => intro u hu; simp at hu; subst hu; rfl); (case h63 => simp [maxLen]; omega); (case hb => omega); (case base => first | (simp at hsz' ⊢; omega) | (simp at hsz'; omega) | (simp; omega) | omega)
       intro g2 cap2 W2 hown2 hgrow2 hgb hglt)
    | (refine step_append_lies _ rfl (.tmp 31) (.tmp 39) 33 rfl w.heap.size 3 i0 (.int .i64 0) 1 8 Tryd.underlying33 hi hz0 hz1 hz2 rfl Nat.one_pos (.slice (some ⟨g', 0, none⟩) xs.length c') xs.length (xs.map (.int .i64)) (by simp [Act.eval, Act.put]) ?own ⟨w.heap.size + 1, 0, none⟩ 1 1 [.int .i64 ((value - n) % below)] (by simp [Act.eval, Act.put]) rfl ?hnews ?h1 Nat.one_pos ?h63 ?hb ?base (W'.heap.size) (rfl) ?_; (case own => exact hown'); (case hnews => exact World.news_of_block ((hgrow.block (w.heap.size + 1) (by first | (simp; done) | (simp; omega)) (by first | (simp; done) | (simp; omega))).trans (two_b w _ _))); (case h1 => intro u hu; simp at hu; subst hu; rfl); (case h63 => simp [maxLen]; omega); (case hb => omega); (case base => first | (simp at hsz' ⊢; omega) | (simp at hsz'; omega) | (simp; omega) | omega)
       intro g2 cap2 W2 hown2 hgrow2 hgb hglt)
    | (refine step_append_lies _ rfl (.tmp 31) (.tmp 39) 33 rfl w.heap.size 3 i0 (.int .i64 0) 1 8 Tryd.underlying33 hi hz0 hz1 hz2 rfl Nat.one_pos (.slice (some ⟨g', 0, none⟩) xs.length c') xs.length (xs.map (.int .i64)) (by simp [Act.eval, Act.put]) ?own ⟨w.heap.size, 0, none⟩ 1 1 [.int .i64 ((value - n) % below)] (by simp [Act.eval, Act.put]) rfl ?hnews ?h1 Nat.one_pos ?h63 ?hb ?base (W'.heap.size) (rfl) ?_; (case own => exact hown'); (case hnews => exact World.news_of_block ((hgrow.block w.heap.size (by first | (simp; done) | (simp; omega)) (by first | (simp; done) | (simp; omega))).trans (two_a w _ _))); (case h1 => intro u hu; simp at hu; subst hu; rfl); (case h63 => simp [maxLen]; omega); (case hb => omega); (case base => first | (simp at hsz' ⊢; omega) | (simp at hsz'; omega) | (simp; omega) | omega)
       intro g2 cap2 W2 hown2 hgrow2 hgb hglt))
  all_goals
    go_wp2
    go_ret2
    have hg1 := (hown'.lt g' rfl).1
    have hb1 : Below w.heap.size w W' := by
      first
      | exact Below.grown (((Below.refl _ _).alloc (Nat.le_refl _) _).drew) hgrow (by simp) (fun q e => by simp at e; omega)
      | exact Below.grown (two_below w _ _) hgrow (two_below w _ _).size (fun q e => by simp at e; omega)
    have hb2 : Below w.heap.size w W2 := by
      first
      | exact (hb1.alloc hb1.size _).grown hgrow2 (by have := hb1.size; rw [alloc_sz]; omega) (fun q e => by simp [Value.ownBlock] at e; omega)
      | exact hb1.grown hgrow2 hb1.size (fun q e => by simp [Value.ownBlock] at e; omega)
    refine ⟨.slice (some ⟨g2, 0, none⟩) (xs.length + 1) cap2, rfl, ?_, hb2⟩
    simpa using hown2

set_option maxRecDepth 100000 in
set_option maxHeartbeats 1000000 in
theorem rsplit_3a (value below : Int) (v : Value) (w : World) (h1 : ¬ (1 ≤ below ∧ below ≤ 1000000000)) :
    Calls Tryd.prog 17 #[.int .i64 value, .int .i64 below, v] w (SplitP w ([], 3)) := by
  have H1 := Lib.hid h1
  clear h1
  go_enter Tryd.func17, Tryd.ntmps17
  go_wp2_with fail
  refine (in_no _ _ _ _ H1.out).mono ?_
  rintro e w' ⟨rfl, rfl⟩
  go_wp2
  go_ret2
  exact split_nil w 3
set_option maxRecDepth 100000 in
set_option maxHeartbeats 1000000 in
theorem rsplit_3b (value below : Int) (v : Value) (w : World) (h1 : 1 ≤ below ∧ below ≤ 1000000000) (h2 : ¬ (0 ≤ value ∧ value ≤ below - 1)) :
    Calls Tryd.prog 17 #[.int .i64 value, .int .i64 below, v] w (SplitP w ([], 3)) := by
  have h1a := h1.1
  have h1b := h1.2
  have H1 := Lib.hid h1; have H2 := Lib.hid h2
  clear h1 h2
  go_enter Tryd.func17, Tryd.ntmps17
  go_wp2_with fail
  refine (in_yes _ _ _ _ H1.out).mono ?_
  rintro e w' ⟨rfl, rfl⟩
  go_wp2_with fail
  refine (in_no _ _ _ _ H2.out).mono ?_
  rintro e w' ⟨rfl, rfl⟩
  go_wp2
  go_ret2
  exact split_nil w 3
set_option maxRecDepth 100000 in
set_option maxHeartbeats 1000000 in
theorem rsplit_err (value below : Int) (v : Value) (w : World) (h1 : 1 ≤ below ∧ below ≤ 1000000000) (h2 : 0 ≤ value ∧ value ≤ below - 1) (n e : Int) (he : e ≠ 0)
    (hc : Calls Tryd.prog 18 #[.int .i64 below, v] w fun x w' => x = .returned (.tuple #[.int .i64 n, .int .i64 e]) ∧ w = w') :
    Calls Tryd.prog 17 #[.int .i64 value, .int .i64 below, v] w (SplitP w ([], e)) := by
  have h1a := h1.1
  have h1b := h1.2
  have H1 := Lib.hid h1; have H2 := Lib.hid h2
  clear h1 h2
  go_enter Tryd.func17, Tryd.ntmps17
  go_wp2_with fail
  refine (in_yes _ _ _ _ H1.out).mono ?_
  rintro e w' ⟨rfl, rfl⟩
  go_wp2_with fail
  refine (in_yes _ _ _ _ H2.out).mono ?_
  rintro e w' ⟨rfl, rfl⟩
  go_wp2_with fail
  refine hc.mono ?_
  rintro e w' ⟨rfl, rfl⟩
  go_wp2
  go_ret2
  exact split_nil w _
theorem rsplit_any (value below : Int) (v : Value) (xs : List Int) (w : World) (hv : Sl (.int .i64) w v xs) (hn : v = .slice none 0 0 ∨ ∃ ad n c, v = .slice (some ad) n c) (hl : xs.length ≤ 1000000) :
    Calls Tryd.prog 17 #[.int .i64 value, .int .i64 below, v] w (SplitP w (splitR value below xs)) := by
  unfold splitR
  by_cases h1 : 1 ≤ below ∧ below ≤ 1000000000
  · by_cases h2 : 0 ≤ value ∧ value ≤ below - 1
    · rw [if_neg (by simp [h1, h2])]
      have hc := rcombine_any below v xs w hv
      have hbd : (combineR below xs).2 = 0 → 0 ≤ (combineR below xs).1 ∧ (combineR below xs).1 < below := by
        unfold combineR
        rw [if_neg (by simp [h1])]
        split
        · simp
        · cases ha : addFrom below 0 xs with
          | none => simp
          | some m => intro _; exact addFrom_bd h1.1 (Int.le_refl 0) (by omega) ha
      generalize combineR below xs = r at hc hbd ⊢
      obtain ⟨n, e⟩ := r
      simp only at hc hbd ⊢
      by_cases he : e = 0
      · subst he
        rw [if_neg (by simp), rsplit_last h1.1 h2 (hbd rfl)]
        exact rsplit_ok value below v xs w hv hn hl h1 h2 n (hbd rfl).1 (hbd rfl).2 hc
      · rw [if_pos he]
        exact rsplit_err value below v w h1 h2 n e he hc
    · rw [if_pos (.inr h2)]
      exact rsplit_3b value below v w h1 h2
  · rw [if_pos (.inl h1)]
    exact rsplit_3a value below v w h1
end Go.Proofs.YtcmpindjgfojaaaDoor
