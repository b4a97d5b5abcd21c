/- Walks: New. -/
import Derived.Test.YtcmpindjgfojaaaDoorWitJ
namespace Go.Proofs.YtcmpindjgfojaaaDoor
open Go.RowKit

theorem ModL.grown0 {L : List Nat} {w w1 w2 : World} (h : ModL L w w1) (hg : w1.grownBy w2 (Value.ownBlock (.slice none 0 0))) : ModL L w w2 := by
  exact h.trans ⟨hg.os, hg.tape, hg.output, hg.size, fun k hk _ => hg.block k hk (by simp [Value.ownBlock])⟩
set_option maxRecDepth 100000 in
set_option maxHeartbeats 1000000 in
theorem write_first (d b k c B t : Nat) (cur : Array Value) (ws : List (List UInt8)) (w : World) (hw : Ok w) (hB : B ≤ w.heap.size)
    (hd : w.heap[d]? = some (.cells cur t (0, 0))) (hcur : cur[0]? = some (.slice none 0 0))
    (hjl : (Lib.join ws [32]).length ≤ 1000000)
    (hJ : ∀ W, Below w.heap.size w W → Calls Tryd.prog 31 #[.slice (some ⟨b, 0, none⟩) k c, .string ⟨#[32]⟩] W fun e w' => e = .returned (.string ⟨(Lib.join ws [32]).toArray⟩) ∧ Below W.heap.size W w') :
    Calls Tryd.prog 46 #[.pointer (some ⟨d, 0, none⟩), .slice (some ⟨b, 0, none⟩) k c] w fun e w' => e = .returned (.int .i64 1) ∧ ∃ g cap, ModL [d] w w' ∧ w'.heap[d]? = some (.cells (cur.setIfInBounds 0 (.slice (some ⟨g, 0, none⟩) 1 cap)) t (0, 0)) ∧ w'.ownsRow B 9 1 (.slice (some ⟨g, 0, none⟩) 1 cap) 1 [strV (lineL ws)] ∧ w.heap.size ≤ g := by
  obtain ⟨i0, hi, hz0, hz1, hz2⟩ := info_parts infoStr
  have hdw := lt_of_heap hd
  have hst : Stay w.heap.size w w.drew := ⟨(Below.refl _ _).drew, Nat.le_refl _, hw.below (Below.refl _ _).drew⟩
  have HD : Hid (w.cell? ⟨d, 0, none⟩ = some (.slice none 0 0)) := (cell_of_heap hd).trans hcur
  have hadd := fun wx => run_add_nl (Lib.join ws [32]) hjl (P := Tryd.prog) wx
  have HL : Hid (Lib.join ws [32] ++ [10] = lineL ws) := rfl
  generalize Lib.join ws [32] ++ [10] = L at hadd HL
  generalize hJJ : (⟨(Lib.join ws [32]).toArray⟩ : ByteArray) = J at hJ hadd
  have Hd0 := Lib.hid hd
  clear hJJ hd hcur
  have hc0 := hst.cell hdw HD.out
  go_enter Tryd.func46, Tryd.ntmps46
  go_wp2
  go_region_law
    (first
    | (go_simp; go_at_call 31; refine (hJ _ ?_).mono ?_; (exact hst.1); rintro e w1 ⟨rfl, hb1⟩; replace hst := hst.step hb1; clear hb1; have hc0 := hst.cell hdw HD.out; have hc1 := (hst.step ((Below.refl _ _).alloc (Nat.le_refl _) (Obj.cells #[Value.string ⟨L.toArray⟩] 9))).cell hdw HD.out)
    | (refine step_append_lies _ rfl (.tmp 9) (.tmp 13) 67 rfl B 9 i0 (.string ⟨#[]⟩) 1 16 Tryd.underlying67 hi hz0 hz1 hz2 rfl Nat.one_pos (.slice none 0 0) 0 [] (by simp [Act.eval, Act.put]) ?own ⟨w1.heap.size, 0, none⟩ 1 1 [.string ⟨L.toArray⟩] (by simp [Act.eval, Act.put]) rfl ?hnews ?h1 Nat.one_pos ?h63 ?hb ?base (w1.heap.size + 1) (by simp) ?_; (case own => exact World.ownsRow_nil _ _ _ _); (case hnews => exact cell_one_new _ _ _); (case h1 => simp [Value.oneCell']); (case h63 => unfold maxLen; omega); (case hb => omega); (case base => have := hst.2.1; simp; omega)
       intro g cap2 w2 hown2 hgrow hgb hglt
       have hd2 : w2.heap[d]? = some (.cells cur t (0, 0)) := (hgrow.block d (by have := hst.2.1; simp; omega) (by simp [Value.ownBlock])).trans ((Below.heap_alloc _ _ _ (by have := hst.2.1; omega)).trans ((hst.1.block d hdw).trans Hd0.out))
       have hd3 := (cell_of_heap (i := 0) hd2).trans ((cell_of_heap (i := 0) Hd0.out).symm.trans HD.out)
       have hf2 := free_of_heap (i := 0) hd2
       have HD2 := Lib.hid hd2; clear hd2))
  all_goals
    go_wp2
    go_ret
    have hsz := hst.2.1
    have hgs : w.heap.size ≤ g := by
      rcases hgb with hgb | hgb
      · simp [Value.ownBlock] at hgb
      · omega
    have hgd : g ≠ d := by omega
    refine ⟨rfl, g, cap2, ?_, setCell_heap HD2.out _, ?_, hgs⟩
    · exact (((ModL.of_below hst.1).alloc _).grown0 hgrow).setCell (p := ⟨d, 0, none⟩) (by simp) _
    · have := own_setCell hown2 (p := ⟨d, 0, none⟩) (Ne.symm hgd) (.slice (some ⟨g, 0, none⟩) 1 cap2)
      rw [← HL.out]
      simpa [strV] using this

/-- 'make([]T, n)': the world outright. -/
theorem wpList_make_ex {P : Program} (w : World) {ops : Array Oper} {rest : List Oper} {o : Oper} {a : Act} {Q : Exit → Act → World → Prop}
    (hg : o.guard = none) (l c : Operand) (t : TypeId) (hop : o.op = Op.makeSlice t l c)
    (e : TypeId) (i : TypeInfo) (z : Value) (size : Nat) (h1 : P.underlying t = some (.slice e)) (h2 : P.info? e = some i) (h3 : i.zero = some z) (h4 : i.size = size)
    (kl kc : IntKind) (n : Nat) (hl : a.eval l = .int kl (n : Int)) (hc : a.eval c = .int kc (n : Int)) (b2 : (i.bytes : Int) * n ≤ 281474976710656) (b3 : (n : Int) ≤ 9223372036854775807)
    (hK : wpList P ops Q rest (a.put o.dst (.slice (some ⟨w.heap.size, 0, none⟩) n n)) (w.alloc (.cells (madeCells z.cells (n * size)) e))) :
    wpList P ops Q (o :: rest) a w := by
  refine wpList_plain hg fun K hK' => ?_
  have hrun := run_make (P := P) w t e i z h1 h2 h3 kl kc n n (by omega) (Int.le_refl _) b2 b3
  subst h4
  unfold Oper.wp
  simp [execOp, hop, hl, hc, hrun, Result.andThen]
  exact hK' _ _ hK
theorem infoPer : (Tryd.prog.info? 96).map (fun i => (i.zero, i.size, i.bytes)) = some (some (.agg #[.string ⟨#[]⟩, .int .i64 0, .int .i64 0, .int .i64 0, .bool false]), 5, 48) := by kernel_rfl
def per0 : Per := ⟨[], 0, 0, 0, false⟩
def newD (below : Int) (n : Nat) : Drw := ⟨[lineL [[100, 114, 97, 119], Lib.itoa below, Lib.itoa n]], below, List.replicate n per0, 0, 0, 0⟩
theorem made_pers (n : Nat) (hn : n ≤ 30) : madeCells (#[.string ⟨#[]⟩, .int .i64 0, .int .i64 0, .int .i64 0, .bool false] : Array Value) (n * 5) = (persC (List.replicate n per0)).toArray := by
  apply Array.ext'
  apply List.ext_getElem?
  intro j
  unfold madeCells
  simp only [Array.toList_map, Array.toList_range, List.getElem?_map]
  by_cases hj : j < n * 5
  · have hk : (List.replicate n per0)[j / 5]? = some per0 := by
      rw [List.getElem?_replicate, if_pos (by omega)]
    have := persC_get _ _ _ hk (j % 5) (by omega)
    rw [show 5 * (j / 5) + j % 5 = j by omega] at this
    rw [List.getElem?_range hj, this]
    have h5 : j % 5 = 0 ∨ j % 5 = 1 ∨ j % 5 = 2 ∨ j % 5 = 3 ∨ j % 5 = 4 := by omega
    rcases h5 with h | h | h | h | h <;> simp [h, perC, per0, strV]
  · rw [List.getElem?_eq_none (by simp; omega), List.getElem?_eq_none (by rw [persC_len]; simp; omega)]
    rfl

theorem draw_len (p v : Int) (h0 : 0 ≤ p) (h1 : p ≤ 9223372036854775807) (h2 : 0 ≤ v) (h3 : v ≤ 9223372036854775807) : (Lib.join [[100, 114, 97, 119], Lib.itoa p, Lib.itoa v] [32]).length ≤ 1000000 := by
  have := joinL_len [[100, 114, 97, 119], Lib.itoa p, Lib.itoa v]
  have h4 := Lib.itoa_length_le p (by omega) h1
  have h5 := Lib.itoa_length_le v (by omega) h3
  simp at this
  omega
def NewP (w : World) (below : Int) (n : Nat) (e : Ending) (w' : World) : Prop :=
  ∃ d pb lb cap, e = .returned (.tuple #[.pointer (some ⟨d, 0, none⟩), .int .i64 0]) ∧ IsD 8 w' d pb lb cap (newD below n) ∧ Below w.heap.size w w' ∧ w.heap.size ≤ d ∧ w.heap.size ≤ pb ∧ w.heap.size ≤ lb

set_option maxRecDepth 100000 in
set_option maxHeartbeats 2000000 in
theorem new_ok (below : Int) (n : Nat) (w : World) (hw : Ok w) (h1 : 1 ≤ below ∧ below ≤ 1000000000) (h2 : 1 ≤ n ∧ n ≤ 30) :
    Calls Tryd.prog 23 #[.int .i64 below, .int .i64 n] w (NewP w below n) := by
  have h1a := h1.1
  have h1b := h1.2
  have h2a := h2.1
  have h2b := h2.2
  have h2i : (1 : Int) ≤ (n : Int) ∧ (n : Int) ≤ 30 := by omega
  obtain ⟨i0, hi, hz0, hz1, hz2⟩ := info_parts infoPer
  have hmp := made_pers n h2b
  have H1 := Lib.hid h1; have H2 := Lib.hid h2i; have HM := Lib.hid hmp
  have hwz := hw.size
  clear h1 h2 h2i hmp
  go_enter Tryd.func23, Tryd.ntmps23
  go_wp2_with fail
  refine (within_yes _ _ _ _ H1.out).mono ?_
  rintro e w' ⟨rfl, rfl⟩
  go_wp2_with fail
  refine (within_yes _ _ _ _ H2.out).mono ?_
  rintro e w' ⟨rfl, rfl⟩
  go_wp2_with (at_make; refine wpList_make_ex _ rfl _ _ 92 rfl 96 i0 _ 5 Tryd.underlying92 hi hz0 hz1 .i64 .i64 n rfl rfl ?b2 ?b3 ?_)
  case b2 => rw [hz2]; omega
  case b3 => omega
  rw [HM.out]
  obtain ⟨W0, hW0⟩ : ∃ W0, W0 = (w.alloc (Obj.cells (persC (List.replicate n per0)).toArray 96)).alloc (Obj.cells #[.slice none 0 0, .int .i64 below, .slice (some ⟨w.heap.size, 0, none⟩) n n, .int .i64 0, .int .i64 0, .int .i64 0] 94) := ⟨_, rfl⟩
  rw [← hW0]
  have hb0 : Below w.heap.size w W0 := by rw [hW0]; exact ((Below.refl _ _).alloc (Nat.le_refl _) _).alloc (by simp) _
  have hz0 : W0.heap.size = w.heap.size + 2 := by rw [hW0]; simp
  have hd0 : W0.heap[w.heap.size + 1]? = some (.cells #[.slice none 0 0, .int .i64 below, .slice (some ⟨w.heap.size, 0, none⟩) n n, .int .i64 0, .int .i64 0, .int .i64 0] 94 (0, 0)) := by
    rw [hW0]
    have := World.alloc_heap_new (w.alloc (Obj.cells (persC (List.replicate n per0)).toArray 96)) (Obj.cells #[.slice none 0 0, .int .i64 below, .slice (some ⟨w.heap.size, 0, none⟩) n n, .int .i64 0, .int .i64 0, .int .i64 0] 94)
    simpa using this
  have hp0 : W0.heap[w.heap.size]? = some (.cells (persC (List.replicate n per0)).toArray 96 (0, 0)) := by
    rw [hW0]
    have := World.alloc_heap_new w (Obj.cells (persC (List.replicate n per0)).toArray 96)
    exact (Below.heap_alloc (w.alloc _) _ w.heap.size (by simp)).trans this
  have hst : Stay W0.heap.size W0 W0.drew := ⟨(Below.refl _ _).drew, Nat.le_refl _, (hw.below hb0).below (Below.refl _ _).drew⟩
  have HW0 := Lib.hid hW0; have Hz := Lib.hid hz0; have Hd := Lib.hid hd0; have Hp := Lib.hid hp0
  clear hW0 hz0 hd0 hp0
  go_region_held3 (fun w' => True)
    (exact trivial)
    (first
    | (go_at_call 47; refine (number_any _ ?_ ?_ _ ?_).mono ?_; omega; omega; (exact hst.ok); rintro e w1 ⟨rfl, hb1⟩; replace hst := hst.step hb1; clear hb1)
    | (go_at_call 46
       have hst6 := hst.step ((Below.refl _ _).alloc (Nat.le_refl _) (Obj.cells #[.string ⟨#[100, 114, 97, 119]⟩, .string ⟨(Lib.itoa below).toArray⟩, .string ⟨(Lib.itoa n).toArray⟩] 9))
       refine (write_first (w.heap.size + 1) _ _ _ 8 94 _ [[100, 114, 97, 119], Lib.itoa below, Lib.itoa n] _ hst6.ok hst6.ok.size ((hst6.1.block _ (by rw [Hz.out]; omega)).trans Hd.out) rfl ?hl ?hj).mono ?_
       (case hl => exact draw_len _ _ (by omega) (by omega) (by omega) (by omega))
       (case hj => exact join_lit [[100, 114, 97, 119], Lib.itoa below, Lib.itoa n] (heap_alloc_new _ _) (Nat.le_refl _) (by simp) (draw_len _ _ (by omega) (by omega) (by omega) (by omega)))
       rintro e w7 ⟨rfl, g7, cap7, hM7, hd7, hl7, hg7⟩))
  simp only [Exit.then]
  go_at_K
  go_wp2
  go_ret2
  have hzz := Hz.out
  have h6 := hst6.2.1
  have hbw : Below w.heap.size w w7 := (hb0.trans (hst6.1.mono hb0.size)).trans (hM7.below (by omega) (by simp))
  refine ⟨w.heap.size + 1, w.heap.size, g7, cap7, rfl, ⟨?_, ?_, ?_, by omega, by omega, by omega, by omega, by omega, by omega, Nat.le_refl _⟩, hbw, by omega, by omega, by omega⟩
  · rw [hd7]
    simp [drwC, newD]
  · exact (hM7.block _ (by omega) (by simp)).trans ((hst6.1.block _ (by omega)).trans Hp.out)
  · simpa [newD] using hl7
theorem new_3 (below n : Int) (w : World) (h : ¬ ((1 ≤ below ∧ below ≤ 1000000000) ∧ (1 ≤ n ∧ n ≤ 30))) :
    Calls Tryd.prog 23 #[.int .i64 below, .int .i64 n] w fun e w' => e = .returned (.tuple #[.pointer none, .int .i64 3]) ∧ w = w' := by
  by_cases h1 : 1 ≤ below ∧ below ≤ 1000000000
  · have h2 : ¬ (1 ≤ n ∧ n ≤ 30) := fun h' => h ⟨h1, h'⟩
    have H1 := Lib.hid h1; have H2 := Lib.hid h2
    clear h h1 h2
    go_enter Tryd.func23, Tryd.ntmps23
    go_wp2_with fail
    refine (within_yes _ _ _ _ H1.out).mono ?_
    rintro e w' ⟨rfl, rfl⟩
    go_wp2_with fail
    refine (within_no _ _ _ _ H2.out).mono ?_
    rintro e w' ⟨rfl, rfl⟩
    go_wp2
    go_ret2
    exact ⟨rfl, rfl⟩
  · have H1 := Lib.hid h1
    clear h h1
    go_enter Tryd.func23, Tryd.ntmps23
    go_wp2_with fail
    refine (within_no _ _ _ _ H1.out).mono ?_
    rintro e w' ⟨rfl, rfl⟩
    go_wp2
    go_ret2
    exact ⟨rfl, rfl⟩
end Go.Proofs.YtcmpindjgfojaaaDoor
