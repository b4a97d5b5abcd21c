/- Walks: a drawing's lines. -/
import Derived.Test.YtcmpindjgfojaaaDoorWitC
import Derived.Deep.AppendLies
import Derived.Deep.RegionLaw
import Derived.KernelRfl
import Derived.Maps.AppendAt
namespace Go.Proofs.YtcmpindjgfojaaaDoor
open Go.RowKit

def strV (l : List UInt8) : Value := .string ⟨l.toArray⟩
theorem infoStr : (Tryd.prog.info? 9).map (fun i => (i.zero, i.size, i.bytes)) = some (some (.string ⟨#[]⟩), 1, 16) := by kernel_rfl

theorem own_below {w w' : World} {B e size n : Nat} {v : Value} {xs : List Value} (h : w.ownsRow B e size v n xs) (hb : Below w.heap.size w w') : w'.ownsRow B e size v n xs := by
  obtain ⟨h1, h2⟩ := h
  refine ⟨h1, ?_⟩
  rcases h2 with h2 | ⟨g, cap, cur, hv, hg, hh, r⟩
  · exact .inl h2
  · exact .inr ⟨g, cap, cur, hv, hg, (hb.block g (Array.getElem?_eq_some_iff.1 hh).1).trans hh, r⟩
/-- A line of words. -/
def lineL (ws : List (List UInt8)) : List UInt8 := Lib.join ws [32] ++ [10]
theorem run_add_nl (J : List UInt8) (h : J.length ≤ 1000000) {P : Program} (w : World) : (Op.stringOp .add ⟨J.toArray⟩ ⟨#[10]⟩).run P w = .ok (.string ⟨(J ++ [10]).toArray⟩) w := by
  have := run_string_add_lists (P := P) w J [10] (by omega) (by decide)
  simpa using this
theorem cell_of_heap {w : World} {d t i : Nat} {cur : Array Value} {fz : Nat × Nat} (h : w.heap[d]? = some (.cells cur t fz)) : w.cell? ⟨d, i, none⟩ = cur[i]? := by simp [World.cell?, h]
theorem free_of_heap {w : World} {d t i : Nat} {cur : Array Value} (h : w.heap[d]? = some (.cells cur t (0, 0))) : w.frozen? ⟨d, i, none⟩ = false := by simp [World.frozen?, h]
theorem lt_of_heap {w : World} {d : Nat} {o : Obj} (h : w.heap[d]? = some o) : d < w.heap.size := (Array.getElem?_eq_some_iff.1 h).1

/-- What a call has turned: of what was there the listed blocks alone. -/
structure ModL (L : List Nat) (w w' : World) : Prop where
  os : w'.os = w.os
  tape : w'.tape = w.tape
  output : w'.output = w.output
  size : w.heap.size ≤ w'.heap.size
  block : ∀ k, k < w.heap.size → k ∉ L → w'.heap[k]? = w.heap[k]?
theorem ModL.of_below {L : List Nat} {w w' : World} (h : Below w.heap.size w w') : ModL L w w' := ⟨h.os, h.tape, h.output, h.size, fun k hk _ => h.block k hk⟩
theorem ModL.trans {L : List Nat} {a b c : World} (h : ModL L a b) (k : ModL L b c) : ModL L a c :=
  ⟨k.os.trans h.os, k.tape.trans h.tape, k.output.trans h.output, Nat.le_trans h.size k.size, fun i hi hL => (k.block i (Nat.lt_of_lt_of_le hi h.size) hL).trans (h.block i hi hL)⟩
theorem ModL.mono {L L' : List Nat} {w w' : World} (h : ModL L w w') (hL : ∀ x ∈ L, x ∈ L') : ModL L' w w' := ⟨h.os, h.tape, h.output, h.size, fun k hk hn => h.block k hk (fun hm => hn (hL k hm))⟩
/-- The same where a block of the list was not there. -/
theorem ModL.new {L L' : List Nat} {w w' : World} (h : ModL L w w') (hL : ∀ x ∈ L, x ∈ L' ∨ w.heap.size ≤ x) : ModL L' w w' :=
  ⟨h.os, h.tape, h.output, h.size, fun k hk hn => h.block k hk (fun hm => by rcases hL k hm with h1 | h1; exact hn h1; omega)⟩
theorem ModL.below {L : List Nat} {B : Nat} {w w' : World} (h : ModL L w w') (hB : B ≤ w.heap.size) (hL : ∀ x ∈ L, B ≤ x) : Below B w w' :=
  ⟨h.os, h.tape, h.output, h.size, fun k hk => h.block k (by omega) (fun hm => by have := hL k hm; omega)⟩
theorem ModL.alloc {L : List Nat} {a w : World} (h : ModL L a w) (o : Obj) : ModL L a (w.alloc o) := h.trans (.of_below ((Below.refl _ _).alloc (Nat.le_refl _) o))
theorem ModL.drew {L : List Nat} {a w : World} (h : ModL L a w) : ModL L a w.drew := h.trans (.of_below (Below.refl _ _).drew)
theorem ModL.setCell {L : List Nat} {a w : World} (h : ModL L a w) {p : Addr} (hp : p.block ∈ L) (v : Value) : ModL L a (w.setCell p v) :=
  h.trans ⟨rfl, rfl, rfl, by simp [World.setCell], fun k _ hk => Below.heap_setCell _ _ _ _ (fun e => hk (by rw [e]; exact hp))⟩
theorem ModL.grown {L : List Nat} {a w w' : World} {g : Nat} (h : ModL L a w) (hg : w.grownBy w' (some g)) (hL : g ∈ L) : ModL L a w' :=
  h.trans ⟨hg.os, hg.tape, hg.output, hg.size, fun k hk hn => hg.block k hk (fun e => hn (by cases e; exact hL))⟩
theorem ModL.ok {L : List Nat} {w w' : World} (h : ModL L w w') (hw : Ok w) (hL : ∀ x ∈ L, 8 ≤ x) : Ok w' :=
  ⟨hw.glb.keep (h.below hw.size hL), Nat.le_trans hw.size h.size⟩

theorem setCell_heap {w : World} {d t i : Nat} {cur : Array Value} (h : w.heap[d]? = some (.cells cur t (0, 0))) (v : Value) : (w.setCell ⟨d, i, none⟩ v).heap[d]? = some (.cells (cur.setIfInBounds i v) t (0, 0)) := by
  simp [World.setCell, Array.getElem?_modify, h]
theorem own_setCell {w : World} {B e size n g cap : Nat} {xs : List Value} (h : w.ownsRow B e size (.slice (some ⟨g, 0, none⟩) n cap) n xs) {p : Addr} (hp : p.block ≠ g) (v : Value) : (w.setCell p v).ownsRow B e size (.slice (some ⟨g, 0, none⟩) n cap) n xs := by
  obtain ⟨h1, h2⟩ := h
  refine ⟨h1, ?_⟩
  rcases h2 with h2 | ⟨g', cap', cur, hv, hg, hh, r⟩
  · exact absurd h2.1 (by simp)
  · simp only [Value.slice.injEq, Option.some.injEq, Addr.mk.injEq, and_true, true_and] at hv
    obtain ⟨rfl, rfl⟩ := hv
    exact .inr ⟨g, cap, cur, rfl, hg, by rw [Below.heap_setCell _ _ _ _ (Ne.symm hp)]; exact hh, r⟩

/-- A line more: what write leaves. -/
def WriteP (d lb B t : Nat) (cur : Array Value) (lines : List (List UInt8)) (w w' : World) : Prop :=
  ∃ g cap, ModL [d, lb] w w' ∧ w'.heap[d]? = some (.cells (cur.setIfInBounds 0 (.slice (some ⟨g, 0, none⟩) lines.length cap)) t (0, 0)) ∧
    w'.ownsRow B 9 1 (.slice (some ⟨g, 0, none⟩) lines.length cap) lines.length (lines.map strV) ∧ (g = lb ∨ w.heap.size ≤ g) ∧ g ≠ d
set_option maxRecDepth 100000 in
set_option maxHeartbeats 1000000 in
theorem write_next (d lb cap b k c B t : Nat) (cur : Array Value) (ws : List (List UInt8)) (lines : List (List UInt8)) (w : World) (hw : Ok w) (hB : B ≤ w.heap.size)
    (hd : w.heap[d]? = some (.cells cur t (0, 0))) (hcur : cur[0]? = some (.slice (some ⟨lb, 0, none⟩) lines.length cap)) (hdl : d ≠ lb)
    (hown : w.ownsRow B 9 1 (.slice (some ⟨lb, 0, none⟩) lines.length cap) lines.length (lines.map strV)) (hn : lines.length ≤ 1000000) (hjl : (Lib.join ws [32]).length ≤ 1000000)
    (hJ : ∀ W, Below w.heap.size w W → Calls Tryd.prog 31 #[.slice (some ⟨b, 0, none⟩) k c, .string ⟨#[32]⟩] W fun e w' => e = .returned (.string ⟨(Lib.join ws [32]).toArray⟩) ∧ Below W.heap.size W w') :
    Calls Tryd.prog 46 #[.pointer (some ⟨d, 0, none⟩), .slice (some ⟨b, 0, none⟩) k c] w fun e w' => e = .returned (.int .i64 (lines.length + 1)) ∧ WriteP d lb B t cur (lines ++ [lineL ws]) w w' := by
  obtain ⟨i0, hi, hz0, hz1, hz2⟩ := info_parts infoStr
  have hdw := lt_of_heap hd
  have hst : Stay w.heap.size w w.drew := ⟨(Below.refl _ _).drew, Nat.le_refl _, hw.below (Below.refl _ _).drew⟩
  have HD : Hid (w.cell? ⟨d, 0, none⟩ = some (.slice (some ⟨lb, 0, none⟩) lines.length cap)) := (cell_of_heap hd).trans hcur
  have hadd := fun wx => run_add_nl (Lib.join ws [32]) hjl (P := Tryd.prog) wx
  have HL : Hid (Lib.join ws [32] ++ [10] = lineL ws) := rfl
  generalize Lib.join ws [32] ++ [10] = L at hadd HL
  generalize hJJ : (⟨(Lib.join ws [32]).toArray⟩ : ByteArray) = J at hJ hadd
  generalize hn' : lines.length = n at *
  have Hn := Lib.hid hn'
  have Hd0 := Lib.hid hd
  clear hn' hJJ hd hcur
  have hc0 := hst.cell hdw HD.out
  go_enter Tryd.func46, Tryd.ntmps46
  go_wp2
  go_region_law
    (first
    | (go_simp; go_at_call 31; refine (hJ _ ?_).mono ?_; (exact hst.1); rintro e w1 ⟨rfl, hb1⟩; replace hst := hst.step hb1; clear hb1; have hc0 := hst.cell hdw HD.out; have hc1 := (hst.step ((Below.refl _ _).alloc (Nat.le_refl _) (Obj.cells #[Value.string ⟨L.toArray⟩] 9))).cell hdw HD.out)
    | (refine step_append_lies _ rfl (.tmp 9) (.tmp 13) 67 rfl B 9 i0 (.string ⟨#[]⟩) 1 16 Tryd.underlying67 hi hz0 hz1 hz2 rfl Nat.one_pos (.slice (some ⟨lb, 0, none⟩) n cap) n (lines.map strV) (by simp [Act.eval, Act.put]) ?own ⟨w1.heap.size, 0, none⟩ 1 1 [.string ⟨L.toArray⟩] (by simp [Act.eval, Act.put]) rfl ?hnews ?h1 Nat.one_pos ?h63 ?hb ?base (w1.heap.size + 1) (by simp) ?_; (case own => exact (own_below hown hst.1).alloc _); (case hnews => exact cell_one_new _ _ _); (case h1 => simp [Value.oneCell']); (case h63 => unfold maxLen; omega); (case hb => omega); (case base => have := hst.2.1; simp; omega)
       intro g cap2 w2 hown2 hgrow hgb hglt
       have hd2 : w2.heap[d]? = some (.cells cur t (0, 0)) := (hgrow.block d (by have := hst.2.1; simp; omega) (by simp [Value.ownBlock, hdl])).trans ((Below.heap_alloc _ _ _ (by have := hst.2.1; omega)).trans ((hst.1.block d hdw).trans Hd0.out))
       have hd3 := (cell_of_heap (i := 0) hd2).trans ((cell_of_heap (i := 0) Hd0.out).symm.trans HD.out)
       have hf2 := free_of_heap (i := 0) hd2
       have HD2 := Lib.hid hd2; clear hd2))
  all_goals
    go_wp2
    go_ret
    have hsz := hst.2.1
    have e : (lines ++ [lineL ws]).length = n + 1 := by rw [← Hn.out]; simp
    have hgd : g ≠ d := by
      rcases hgb with hgb | hgb
      · simp only [Value.ownBlock, Option.some.injEq] at hgb
        omega
      · omega
    refine ⟨rfl, ?_⟩
    unfold WriteP
    rw [e]
    refine ⟨g, cap2, ?_, setCell_heap HD2.out _, ?_, ?_, hgd⟩
    · exact (((ModL.of_below hst.1).alloc _).grown (g := lb) hgrow (by simp)).setCell (p := ⟨d, 0, none⟩) (by simp) _
    · have := own_setCell hown2 (p := ⟨d, 0, none⟩) (Ne.symm hgd) (.slice (some ⟨g, 0, none⟩) (n + 1) cap2)
      rw [← HL.out]
      simpa [strV] using this
    · rcases hgb with hgb | hgb
      · simp only [Value.ownBlock, Option.some.injEq] at hgb
        exact .inl hgb.symm
      · exact .inr (by omega)
end Go.Proofs.YtcmpindjgfojaaaDoor
