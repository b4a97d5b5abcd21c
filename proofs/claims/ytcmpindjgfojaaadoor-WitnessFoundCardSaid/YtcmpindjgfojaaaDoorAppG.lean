/- What append gives of an empty slice of one's own and all of another slice. -/
import Derived.Test.YtcmpindjgfojaaaDoorWitJ
import Derived.Deep.AppendLies
namespace Go.Proofs.YtcmpindjgfojaaaDoor
open Go.RowKit

section
variable {P : Program} {t e : TypeId} {z : Value} {bytes : Nat} {α : Type} {enc : α → Value}
theorem wp_app_all {o : Oper} {a : Act} {K : Act → World → Prop} {Q : Exit → Act → World → Prop} (w : World) (s x : Operand)
    (ho : o.op = .call { callee := .builtin .append, args := #[s, x], argTypes := #[t, t] }) (ht : P.underlying t = some (.slice e)) (hinfo : (P.info? e).map (fun i => (i.zero, i.size, i.bytes)) = some (some z, 1, bytes)) (hz : z.cells.size = 1) (henc : ∀ x, (enc x).oneCell' = true) (hby : bytes ≤ 100)
    (B g : Nat) (hs : a.eval s = .slice (some ⟨g, 0, none⟩) 0 0)
    (hown : w.ownsRow B e 1 (.slice (some ⟨g, 0, none⟩) 0 0) 0 []) (v : Value) (xs : List α) (hx : a.eval x = v) (hv : Sl enc w v xs) (hn : v = .slice none 0 0 ∨ ∃ ad n c, v = .slice (some ad) n c)
    (hl : xs.length ≤ 1000000) (hB : B ≤ w.heap.size)
    (h : ∀ v' w', w'.ownsRow B e 1 v' xs.length (xs.map enc) → w.grownBy w' (some g) → (∃ g' c, v' = .slice (some ⟨g', 0, none⟩) xs.length c ∧ (g' = g ∨ g' = w.heap.size)) → K (a.put o.dst v') w') :
    Oper.wp P o a w K Q := by
  obtain ⟨i0, hi, hz0, hz1, hz2⟩ := info_parts hinfo
  rcases hn with rfl | ⟨ad, n, c, rfl⟩
  · obtain ⟨a', c', e', _, _⟩ := hv
    simp only [Value.slice.injEq] at e'
    have h0 : xs = [] := List.eq_nil_of_length_eq_zero e'.2.1.symm
    subst h0
    have hrun := run_append_owned_none (P := P) w B t o.type e i0 1 ht hi _ 0 [] hown
    unfold Oper.wp
    simp [execOp, ho, resolve, invoke, builtin, hs, hx, hrun, Result.andThen]
    exact h _ w (by simpa using hown) (World.grownBy.refl _ _) ⟨g, 0, rfl, .inl rfl⟩
  · obtain ⟨a', c', e', hc', hcell⟩ := hv
    simp only [Value.slice.injEq] at e'
    obtain ⟨rfl, rfl, rfl⟩ := e'
    have hnews : ∀ j u, (xs.map enc)[j]? = some u → w.cell? (ad.add j) = some u := by
      intro j u hj
      rw [List.getElem?_map] at hj
      obtain ⟨y, hy, rfl⟩ := Option.map_eq_some_iff.1 hj
      obtain ⟨b, off, e', _, h2⟩ := hcell (by have := (List.getElem?_eq_some_iff.1 hy).1; omega)
      obtain rfl := Option.some.inj e'
      rw [Addr.add_lit]
      exact h2 j y hy
    have hone : ∀ u ∈ xs.map enc, u.oneCell' = true := by
      intro u hu
      obtain ⟨y, _, rfl⟩ := List.mem_map.1 hu
      exact henc y
    have hbb : (0 + xs.length) * bytes ≤ 140737488355328 := by
      have : (0 + xs.length) * bytes ≤ 1000000 * 100 := Nat.mul_le_mul (by omega) hby
      omega
    obtain ⟨v', w', hr, h1, h2, h3, h4⟩ := run_append_own_at (P := P) w B t o.type e i0 z 1 bytes ht hi hz0 hz1 hz2 hz Nat.one_pos _ 0 [] hown ad xs.length c (xs.map enc) (by simp) hnews hone (by simp [maxLen]; omega) hbb hB
    have h5 : w'.ownsRow B e 1 v' xs.length (xs.map enc) := by simpa using h1
    unfold Oper.wp execOp
    simp only [ho, resolve, invoke, builtin, Sem.run_bind, Sem.run_pure, Result.andThen_ok, List.map_toArray, List.map_cons, List.map_nil, hs, hx, hr]
    refine h v' w' h5 h2 ?_
    rcases h5.2 with ⟨hnil, _⟩ | ⟨g', c, cur, hv2, _⟩
    · exact absurd (h3.1 hnil).1 (by simp)
    · refine ⟨g', c, hv2, ?_⟩
      rw [hv2] at h4
      simp only [Value.ownBlock, Option.some.injEq] at h4
      exact h4
theorem step_app_all {ops : Array Oper} {o : Oper} {a : Act} {K : Act → World → Prop} {Q : Exit → Act → World → Prop} {E : Prop} (w : World) (hgd : o.guard = none) (s x : Operand)
    (ho : o.op = .call { callee := .builtin .append, args := #[s, x], argTypes := #[t, t] }) (ht : P.underlying t = some (.slice e)) (hinfo : (P.info? e).map (fun i => (i.zero, i.size, i.bytes)) = some (some z, 1, bytes)) (hz : z.cells.size = 1) (henc : ∀ x, (enc x).oneCell' = true) (hby : bytes ≤ 100)
    (B g : Nat) (hs : a.eval s = .slice (some ⟨g, 0, none⟩) 0 0)
    (hown : w.ownsRow B e 1 (.slice (some ⟨g, 0, none⟩) 0 0) 0 []) (v : Value) (xs : List α) (hx : a.eval x = v) (hv : Sl enc w v xs) (hn : v = .slice none 0 0 ∨ ∃ ad n c, v = .slice (some ad) n c)
    (hl : xs.length ≤ 1000000) (hB : B ≤ w.heap.size)
    (h : ∀ v' w', w'.ownsRow B e 1 v' xs.length (xs.map enc) → w.grownBy w' (some g) → (∃ g' c, v' = .slice (some ⟨g', 0, none⟩) xs.length c ∧ (g' = g ∨ g' = w.heap.size)) → K (a.put o.dst v') w') :
    if Region.wanted o (yielded ops a.tmps) = true then Oper.wp P o a w K Q else E := by
  have hw : Region.wanted o (yielded ops a.tmps) = true := by simp [Region.wanted, hgd]
  rw [if_pos hw]
  exact wp_app_all w s x ho ht hinfo hz henc hby B g hs hown v xs hx hv hn hl hB h
theorem wpList_app_all {ops : Array Oper} {rest : List Oper} {o : Oper} {a : Act} {Q : Exit → Act → World → Prop} (w : World) (hgd : o.guard = none) (s x : Operand)
    (ho : o.op = .call { callee := .builtin .append, args := #[s, x], argTypes := #[t, t] }) (ht : P.underlying t = some (.slice e)) (hinfo : (P.info? e).map (fun i => (i.zero, i.size, i.bytes)) = some (some z, 1, bytes)) (hz : z.cells.size = 1) (henc : ∀ x, (enc x).oneCell' = true) (hby : bytes ≤ 100)
    (B g : Nat) (hs : a.eval s = .slice (some ⟨g, 0, none⟩) 0 0)
    (hown : w.ownsRow B e 1 (.slice (some ⟨g, 0, none⟩) 0 0) 0 []) (v : Value) (xs : List α) (hx : a.eval x = v) (hv : Sl enc w v xs) (hn : v = .slice none 0 0 ∨ ∃ ad n c, v = .slice (some ad) n c)
    (hl : xs.length ≤ 1000000) (hB : B ≤ w.heap.size)
    (h : ∀ v' w', w'.ownsRow B e 1 v' xs.length (xs.map enc) → w.grownBy w' (some g) → (∃ g' c, v' = .slice (some ⟨g', 0, none⟩) xs.length c ∧ (g' = g ∨ g' = w.heap.size)) → wpList P ops Q rest (a.put o.dst v') w') :
    wpList P ops Q (o :: rest) a w :=
  wpList_plain hgd fun _ hK => wp_app_all w s x ho ht hinfo hz henc hby B g hs hown v xs hx hv hn hl hB fun v' w' h1 h2 h3 => hK _ _ (h v' w' h1 h2 h3)
end
theorem alloc_size1 (w : World) (o : Obj) : (w.alloc o).heap.size = w.heap.size + 1 := by simp
theorem own_new {w : World} {B g : Nat} {t : TypeId} (h : B ≤ g) (hg : w.heap[g]? = some (.cells #[] t (0, 0))) : w.ownsRow B t 1 (.slice (some ⟨g, 0, none⟩) 0 0) 0 [] :=
  ⟨rfl, .inr ⟨g, 0, #[], rfl, h, hg, Nat.le_refl _, by decide, rfl, rfl⟩⟩
end Go.Proofs.YtcmpindjgfojaaaDoor
