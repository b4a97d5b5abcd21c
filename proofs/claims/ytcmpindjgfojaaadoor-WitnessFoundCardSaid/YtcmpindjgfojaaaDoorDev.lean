/- Walks: Deviants of a drawing from which nobody deviates. -/
import Derived.Test.YtcmpindjgfojaaaDoorWitI
namespace Go.Proofs.YtcmpindjgfojaaaDoor
open Go.RowKit

attribute [local go_sem] Oper.semAt_some
variable {B : Nat} {w : World} {d pb lb cap : Nat} {D : Drw}

set_option maxRecDepth 100000 in
set_option maxHeartbeats 2000000 in
theorem appendSeq_nil (h : IsD B w d pb lb cap D) (hl : D.pers.length ≤ 30) (hdv : devs D = []) :
    Calls Tryd.prog 61 #[.slice none 0 0, .func (.func 44) #[.pointer (some ⟨d, 0, none⟩)] #[]] w fun e w' => e = .returned (.slice none 0 0) ∧ Below w.heap.size w w' := by
  refine callsIn_wide.1 (callsIn_of_wp_marks (n := 5) Tryd.func61 rfl trivial (wpIn_wide.2 ?_) rfl)
  simp only [Tryd.ntmps61, List.size_toArray, List.length_cons, List.length_nil, Nat.reduceAdd, Nat.reduceSub, Array.replicate_succ, Array.replicate_zero, List.push_toArray, List.append_toArray, List.nil_append, List.cons_append]
  have hdl := lt_of_heap h.self
  have hpl := lt_of_heap h.pers
  go_wp2
  obtain ⟨w1, hw1⟩ : ∃ w1, w1 = w.alloc (Obj.cells #[.slice none 0 0] 47) := ⟨_, rfl⟩
  rw [← hw1]
  have hb1 : Below w.heap.size w w1 := by rw [hw1]; exact (Below.refl _ _).alloc (Nat.le_refl _) _
  have hs1 : w1.heap.size = w.heap.size + 1 := by rw [hw1]; simp
  have hc1 : w1.cell? ⟨w.heap.size, 0, none⟩ = some (.slice none 0 0) := by rw [hw1]; simp [World.cell?_alloc_new]
  clear hw1
  have hD1 := h.below hb1
  refine (wpIn_wide (n := 5)).1 ?_
  refine range_first (α := Dev) (gf := 44) (fst := #[.pointer (some ⟨d, 0, none⟩)]) (lb := #[]) rfl (fun args w => rfl) (fun x => #[devV x]) (fun x => rfl) (devs D) w1.heap.size (Nat.le_refl _) ?_
    (fun s W => Below w1.heap.size w1 W) (fun _ _ _ => False) ?_ ?_ ?_ (Below.refl _ _) ?_ ?_ ?_
  · intro l J Jx W hbW hJ hY h0
    exact deviants_in 4 B d pb lb cap w1.heap.size l D hl J Jx hJ W (hD1.below hbW) (by omega) (by omega) hbW.size hY h0
  · intro s W W' h1 hb
    exact h1.trans (hb.mono h1.size)
  · intro s W l o o' h1 hl' _ _
    exact h1.trans (below_putObj hl')
  · intro c s W l o o' hf _ _ _
    exact hf
  · intro l pre x rest W hx
    rw [hdv] at hx
    cases pre <;> cases hx
  · intro Dd W hDd hIb hK
    have hc : W.cell? ⟨w.heap.size, 0, none⟩ = some (.slice none 0 0) := (hIb.cell (p := ⟨w.heap.size, 0, none⟩) (by simp only; omega)).trans hc1
    have HK := Lib.hid hK
    clear hK hc1
    simp only [Exit.inBlock, Exit.then]
    go_at_K
    go_wp2
    refine ⟨by simp, .inl ⟨_, _, rfl, run_takeDeferred HK.out, ?_⟩⟩
    refine ⟨_, results_tmp rfl _ _ _, rfl, ?_⟩
    exact (hb1.trans (hIb.mono (by omega))).trans (below_putObj (by omega))
  · intro Dd c pre x rest W hDd hx
    rw [hdv] at hx
    cases pre <;> cases hx
theorem collect_nil (h : IsD B w d pb lb cap D) (hl : D.pers.length ≤ 30) (hdv : devs D = []) :
    Calls Tryd.prog 45 #[.func (.func 44) #[.pointer (some ⟨d, 0, none⟩)] #[]] w fun e w' => e = .returned (.slice none 0 0) ∧ Below w.heap.size w w' := by
  have ha := appendSeq_nil h hl hdv
  clear h hdv
  go_enter Tryd.func45, Tryd.ntmps45
  go_wp2_with fail
  refine ha.mono ?_
  rintro e w1 ⟨rfl, hb1⟩
  go_wp2
  go_ret
  exact ⟨rfl, hb1⟩
theorem deviants_nil (h : IsD B w d pb lb cap D) (hl : D.pers.length ≤ 30) (hdv : devs D = []) :
    Calls Tryd.prog 22 #[.pointer (some ⟨d, 0, none⟩)] w fun e w' => e = .returned (.tuple #[.slice none 0 0, .int .i64 0]) ∧ Below w.heap.size w w' := by
  have ha := collect_nil h hl hdv
  clear h hdv
  go_enter Tryd.func22, Tryd.ntmps22
  go_wp2_with fail
  refine ha.mono ?_
  rintro e w1 ⟨rfl, hb1⟩
  go_wp2
  go_ret2
  exact ⟨rfl, hb1⟩
end Go.Proofs.YtcmpindjgfojaaaDoor
