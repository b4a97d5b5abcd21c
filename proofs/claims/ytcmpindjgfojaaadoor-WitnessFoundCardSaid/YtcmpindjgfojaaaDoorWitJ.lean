/- Walks: Seal, Split. -/
import Derived.Test.YtcmpindjgfojaaaDoorWitI
import Derived.Maps.AppendAt
namespace Go.Proofs.YtcmpindjgfojaaaDoor
open Go.RowKit

theorem boxB_bd {p v : Int} {s : List UInt8} (h : boxB p v s = true) : 0 ≤ p ∧ p ≤ 9223372036854775807 ∧ 0 ≤ v ∧ v ≤ 9223372036854775807 ∧ s.length ≤ 1000 := by
  unfold boxB saltB at h
  simp at h
  omega
/-- What Seal returns. -/
def sealR (p v : Int) (s : List UInt8) : List UInt8 × Int := if boxB p v s then (hashL (textL p v s), 0) else ([], 2)

set_option maxHeartbeats 400000 in
theorem seal2_any (p v : Int) (s : ByteArray) (hs : s.size ≤ 140737488351232) (w : World) (hw : Ok w) :
    Calls Tryd.prog 11 #[boxV p v s] w fun e w' => e = .returned (.tuple #[.string ⟨(sealR p v s.data.toList).1.toArray⟩, .int .i64 (sealR p v s.data.toList).2]) ∧ Below w.heap.size w w' := by
  have HB := isBox_any p v s hs
  have hb0 : Below w.heap.size w (w.alloc (Obj.cells #[Value.int IntKind.i64 p, Value.int IntKind.i64 v, Value.string s] 23)) := (Below.refl _ w).alloc (Nat.le_refl _) _
  have b0 : (w.alloc (Obj.cells #[Value.int IntKind.i64 p, Value.int IntKind.i64 v, Value.string s] 23)).cell? ⟨w.heap.size, 0, none⟩ = some (.int .i64 p) := by simp [World.cell?_alloc_new]
  have b1 : (w.alloc (Obj.cells #[Value.int IntKind.i64 p, Value.int IntKind.i64 v, Value.string s] 23)).cell? ⟨w.heap.size, 1, none⟩ = some (.int .i64 v) := by simp [World.cell?_alloc_new]
  have b2 : (w.alloc (Obj.cells #[Value.int IntKind.i64 p, Value.int IntKind.i64 v, Value.string s] 23)).cell? ⟨w.heap.size, 2, none⟩ = some (.string s) := by simp [World.cell?_alloc_new]
  have hst := Stay.of hw (Obj.cells #[Value.int IntKind.i64 p, Value.int IntKind.i64 v, Value.string s] 23)
  cases hbx : boxB p v s.data.toList with
  | false =>
    rw [hbx] at HB
    have hr : sealR p v s.data.toList = ([], 2) := by simp [sealR, hbx]
    rw [hr]
    clear hr b0 b1 b2
    unfold boxV at HB ⊢
    go_enter Tryd.func11, Tryd.ntmps11
    go_wp2_with (go_at_call 35; refine (HB _).mono ?_; rintro e w1 ⟨rfl, hb1⟩)
    go_ret2
    exact ⟨rfl, hb0.trans (hb1.mono (by simp))⟩
  | true =>
    rw [hbx] at HB
    obtain ⟨k1, k2, k3, k4, k5⟩ := boxB_bd hbx
    have hs2 : s.size ≤ 1000 := by simpa using k5
    have hr : sealR p v s.data.toList = (hashL (textL p v s.data.toList), 0) := by simp [sealR, hbx]
    rw [hr]
    have B0 := Lib.hid b0; have B1 := Lib.hid b1; have B2 := Lib.hid b2
    clear hr hbx b0 b1 b2
    have HS := seal_any p v s k1 k2 k3 k4 hs2
    unfold boxV at HB HS ⊢
    go_enter Tryd.func11, Tryd.ntmps11
    go_wp2_with (go_at_call 35; refine (HB _).mono ?_; rintro e w1 ⟨rfl, hb1⟩; replace hst := hst.step hb1; have c0 := hst.cell (Nat.lt_succ_self _) B0.out; have c1 := hst.cell (Nat.lt_succ_self _) B1.out; have c2 := hst.cell (Nat.lt_succ_self _) B2.out)
    refine (HS _ hst.ok).mono ?_
    rintro e w2 ⟨rfl, hb2⟩
    replace hst := hst.step hb2
    clear c0 c1 c2
    go_wp2_with fail
    refine (string_of _ (fnv_bd _).1 (fnv_bd _).2 _ hst.ok).mono ?_
    rintro e w3 ⟨rfl, hb3⟩
    replace hst := hst.step hb3
    go_wp2
    go_ret2
    exact ⟨rfl, hst.fin⟩

theorem clone_any {w : World} {v : Value} {xs : List Int} (hv : Sl (.int .i64) w v xs) (hl : xs.length ≤ 1000000) :
    Calls Tryd.prog 42 #[v] w fun e w' => ∃ v', e = .returned v' ∧ w'.ownsRow w.heap.size 3 1 v' xs.length (xs.map (.int .i64)) ∧ Below w.heap.size w w' := by
  obtain ⟨a, c, rfl, hc, hx⟩ := hv
  by_cases h0 : 0 < xs.length
  · obtain ⟨b, off, rfl, hb, hcell⟩ := hx h0
    refine (Tryd.slices_Clone_int b off xs.length c xs w (Nat.le_refl _) (by omega) (fun j hj => ?_)).mono ?_
    · have := hcell j xs[j] (List.getElem?_eq_getElem hj)
      rw [this]; simp [List.getD, hj]
    · rintro e w' ⟨v', rfl, h1, _, h3⟩
      exact ⟨v', rfl, by simpa using h1, h3⟩
  · obtain rfl : xs = [] := List.eq_nil_of_length_eq_zero (by omega)
    cases a with
    | none =>
      refine (Tryd.slices_Clone_int_nil 0 c w).mono ?_
      rintro e w' ⟨rfl, rfl⟩
      exact ⟨_, rfl, World.ownsRow_nil _ _ _ _, Below.refl _ _⟩
    | some a =>
      refine (Tryd.slices_Clone_int_zero a c w).mono ?_
      rintro e w' ⟨v', rfl, h1, _, h3⟩
      exact ⟨v', rfl, h1, h3⟩
theorem infoInt : (Tryd.prog.info? 3).map (fun i => (i.zero, i.size, i.bytes)) = some (some (.int .i64 0), 1, 8) := by kernel_rfl
/-- What Split returns. -/
def splitR (value below : Int) (xs : List Int) : List Int × Int :=
  if ¬ (1 ≤ below ∧ below ≤ 1000000000) ∨ ¬ (0 ≤ value ∧ value ≤ below - 1) then ([], 3) else
  if (combineR below xs).2 ≠ 0 then ([], (combineR below xs).2) else
  (xs ++ [(addFrom below 0 [value, (below - (combineR below xs).1) % below]).getD 0], 0)
theorem Sl.two' (w : World) (a b : Int) (t : TypeId) : Sl (.int .i64) (w.alloc (Obj.cells #[.int .i64 a, .int .i64 b] t)) (.slice (some ⟨w.heap.size, 0, none⟩) 2 2) [a, b] := by
  refine ⟨some ⟨w.heap.size, 0, none⟩, 2, rfl, Nat.le_refl _, fun _ => ⟨w.heap.size, 0, rfl, by simp, fun j x hj => ?_⟩⟩
  match j, hj with
  | 0, hj => simp at hj; subst hj; simp [World.cell?_alloc_new]
  | 1, hj => simp at hj; subst hj; simp [World.cell?_alloc_new]
theorem own_mono {w : World} {base base' : Nat} {e : TypeId} {size : Nat} {v : Value} {n : Nat} {xs : List Value} (h : w.ownsRow base e size v n xs) (hb : base' ≤ base) : w.ownsRow base' e size v n xs := by
  obtain ⟨h1, h2⟩ := h
  refine ⟨h1, ?_⟩
  rcases h2 with h2 | ⟨g, cap, cur, hv, hg, r⟩
  · exact .inl h2
  · exact .inr ⟨g, cap, cur, hv, Nat.le_trans hb hg, r⟩
def SplitP (w : World) (r : List Int × Int) (e : Ending) (w' : World) : Prop :=
  ∃ v', e = .returned (.tuple #[v', .int .i64 r.2]) ∧ w'.ownsRow w.heap.size 3 1 v' r.1.length (r.1.map (.int .i64)) ∧ Below w.heap.size w w'
theorem split_nil (w : World) (e : Int) : SplitP w ([], e) (.returned (.tuple #[.slice none 0 0, .int .i64 e])) w := ⟨_, rfl, World.ownsRow_nil _ _ _ _, Below.refl _ _⟩

set_option maxRecDepth 100000 in
set_option maxHeartbeats 1000000 in
theorem split_3a (value below : Int) (v : Value) (w : World) (h1 : ¬ (1 ≤ below ∧ below ≤ 1000000000)) :
    Calls Tryd.prog 15 #[.int .i64 value, .int .i64 below, v] w (SplitP w ([], 3)) := by
  have H1 := Lib.hid h1
  clear h1
  go_enter Tryd.func15, Tryd.ntmps15
  go_wp2_with (go_at_call 40; refine (within_no _ _ _ _ H1.out).mono ?_; rintro e w' ⟨rfl, rfl⟩)
  go_ret2
  exact split_nil w 3
set_option maxRecDepth 100000 in
set_option maxHeartbeats 1000000 in
theorem split_3b (value below : Int) (v : Value) (w : World) (h1 : 1 ≤ below ∧ below ≤ 1000000000) (h2 : ¬ (0 ≤ value ∧ value ≤ below - 1)) :
    Calls Tryd.prog 15 #[.int .i64 value, .int .i64 below, v] w (SplitP w ([], 3)) := by
  have h1a := h1.1
  have h1b := h1.2
  have H1 := Lib.hid h1; have H2 := Lib.hid h2
  clear h1 h2
  go_enter Tryd.func15, Tryd.ntmps15
  go_wp2_with fail
  refine (within_yes _ _ _ _ H1.out).mono ?_
  rintro e w' ⟨rfl, rfl⟩
  go_wp2_with fail
  refine (within_no _ _ _ _ H2.out).mono ?_
  rintro e w' ⟨rfl, rfl⟩
  go_wp2
  go_ret2
  exact split_nil w 3
set_option maxRecDepth 100000 in
set_option maxHeartbeats 1000000 in
theorem split_err (value below : Int) (v : Value) (w : World) (h1 : 1 ≤ below ∧ below ≤ 1000000000) (h2 : 0 ≤ value ∧ value ≤ below - 1) (n e : Int) (he : e ≠ 0)
    (hc : Calls Tryd.prog 16 #[.int .i64 below, v] w fun x w' => x = .returned (.tuple #[.int .i64 n, .int .i64 e]) ∧ w = w') :
    Calls Tryd.prog 15 #[.int .i64 value, .int .i64 below, v] w (SplitP w ([], e)) := by
  have h1a := h1.1
  have h1b := h1.2
  have H1 := Lib.hid h1; have H2 := Lib.hid h2
  clear h1 h2
  go_enter Tryd.func15, Tryd.ntmps15
  go_wp2_with fail
  refine (within_yes _ _ _ _ H1.out).mono ?_
  rintro e w' ⟨rfl, rfl⟩
  go_wp2_with fail
  refine (within_yes _ _ _ _ H2.out).mono ?_
  rintro e w' ⟨rfl, rfl⟩
  go_wp2_with fail
  refine hc.mono ?_
  rintro e w' ⟨rfl, rfl⟩
  go_wp2
  go_ret2
  exact split_nil w _
set_option maxRecDepth 100000 in
set_option maxHeartbeats 1000000 in
theorem split_ok (value below : Int) (v : Value) (xs : List Int) (w : World) (h1 : 1 ≤ below ∧ below ≤ 1000000000) (h2 : 0 ≤ value ∧ value ≤ below - 1) (n : Int) (n0 : 0 ≤ n) (n1 : n < below) (x : Int)
    (hx : addFrom below 0 [value, (below - n) % below] = some x) (hl : xs.length ≤ 1000000)
    (hc : Calls Tryd.prog 16 #[.int .i64 below, v] w fun x w' => x = .returned (.tuple #[.int .i64 n, .int .i64 0]) ∧ w = w')
    (hcl : ∀ W, Below w.heap.size w W → Calls Tryd.prog 42 #[v] W fun e w' => ∃ v', e = .returned v' ∧ w'.ownsRow W.heap.size 3 1 v' xs.length (xs.map (.int .i64)) ∧ Below W.heap.size W w') :
    Calls Tryd.prog 15 #[.int .i64 value, .int .i64 below, v] w (SplitP w (xs ++ [x], 0)) := by
  have h1a := h1.1
  have h1b := h1.2
  have h2a := h2.1
  have h2b := h2.2
  have hm0 : 0 ≤ (below - n) % below := Int.emod_nonneg _ (by omega)
  have hm1 : (below - n) % below < below := Int.emod_lt_of_pos _ (by omega)
  have hmm : (below - n) % below = -n % below := by simp
  rw [hmm] at hx
  obtain ⟨i0, hi, hz0, hz1, hz2⟩ := info_parts infoInt
  have H1 := Lib.hid h1; have H2 := Lib.hid h2; have Hx := Lib.hid hx
  have hbx := addFrom_bd h1a (Int.le_refl 0) (by omega) hx
  clear h1 h2 hx hmm
  go_enter Tryd.func15, Tryd.ntmps15
  go_wp2_with fail
  refine (within_yes _ _ _ _ H1.out).mono ?_
  rintro e w' ⟨rfl, rfl⟩
  go_wp2_with fail
  refine (within_yes _ _ _ _ H2.out).mono ?_
  rintro e w' ⟨rfl, rfl⟩
  go_wp2_with fail
  refine hc.mono ?_
  rintro e w' ⟨rfl, rfl⟩
  go_wp2_with fail
  refine (add_any below _ [value, -n % below] _ h1a h1b (Sl.two' _ _ _ _) (by simp)).mono ?_
  rw [Hx.out]
  unfold addRet
  rintro e w' ⟨rfl, rfl⟩
  have hb1 : Below w.heap.size w (w.alloc (Obj.cells #[Value.int IntKind.i64 value, Value.int IntKind.i64 (-n % below)] 3)) := (Below.refl _ _).alloc (Nat.le_refl _) _
  have hz1' : (w.alloc (Obj.cells #[Value.int IntKind.i64 value, Value.int IntKind.i64 (-n % below)] 3)).heap.size = w.heap.size + 1 := by simp
  generalize w.alloc (Obj.cells #[Value.int IntKind.i64 value, Value.int IntKind.i64 (-n % below)] 3) = W1 at hb1 hz1' ⊢
  go_wp2_with fail
  refine (hcl _ hb1).mono ?_
  rintro e W2 ⟨v2, rfl, hown, hb2⟩
  have HZ := Lib.hid hz1'
  have hW2 := hb2.size
  clear hz1'
  go_wp2_with (at_builtin; refine wpList_append_own_at _ rfl _ _ _ rfl w.heap.size 3 i0 (.int .i64 0) 1 8 Tryd.underlying33 hi hz0 hz1 hz2 rfl Nat.one_pos v2 xs.length (xs.map (.int .i64)) rfl ?own ⟨W2.heap.size, 0, none⟩ 1 1 [.int .i64 x] rfl rfl ?hnews ?h1 ?h63 ?hb ?base ?_)
  case own => exact (own_mono hown hb1.size).alloc _
  case hnews => exact cell_one_new _ _ _
  case h1 => intro u hu; simp at hu; subst hu; rfl
  case h63 => simp [maxLen]; omega
  case hb => omega
  case base => have := hb1.size; simp; omega
  intro v3 W3 hown3 hgrow _ hat
  go_wp2
  go_ret2
  refine ⟨v3, rfl, by simpa using hown3, ?_⟩
  have hb12 : Below w.heap.size w (W2.alloc (Obj.cells #[Value.int IntKind.i64 x] 3)) := (hb1.trans (hb2.mono hb1.size)).alloc (by have := hb1.size; omega) _
  refine hb12.grown hgrow hb12.size (fun k e => ?_)
  have := (hown.lt k e).1
  have := hb1.size
  omega
theorem split_any (value below : Int) (v : Value) (xs : List Int) (w : World) (hv : Sl (.int .i64) w v xs) (hl : xs.length ≤ 1000000) :
    Calls Tryd.prog 15 #[.int .i64 value, .int .i64 below, v] w (SplitP w (splitR value below xs)) := by
  unfold splitR
  by_cases h1 : 1 ≤ below ∧ below ≤ 1000000000
  · by_cases h2 : 0 ≤ value ∧ value ≤ below - 1
    · rw [if_neg (by simp [h1, h2])]
      have hc := combine_any below v xs w hv (by omega)
      have hbd : (combineR below xs).2 = 0 → 0 ≤ (combineR below xs).1 ∧ (combineR below xs).1 < below := by
        unfold combineR
        rw [if_neg (by simp [h1])]
        split
        · simp
        · cases ha : addFrom below 0 xs with
          | none => simp
          | some m => intro _; exact addFrom_bd h1.1 (Int.le_refl 0) (by omega) ha
      generalize combineR below xs = r at hc hbd ⊢
      obtain ⟨n, e⟩ := r
      simp only at hc hbd ⊢
      by_cases he : e = 0
      · subst he
        have hm0 : 0 ≤ (below - n) % below := Int.emod_nonneg _ (by omega)
        have hm1 : (below - n) % below < below := Int.emod_lt_of_pos _ (by omega)
        obtain ⟨x, hx⟩ : ∃ x, addFrom below 0 [value, (below - n) % below] = some x := by
          unfold addFrom; rw [if_pos h2]
          unfold addFrom; rw [if_pos (by omega)]
          exact ⟨_, rfl⟩
        rw [if_neg (by simp), hx]
        exact split_ok value below v xs w h1 h2 n (hbd rfl).1 (hbd rfl).2 x hx hl hc (fun W hb => clone_any (hv.below hb) hl)
      · rw [if_pos he]
        exact split_err value below v w h1 h2 n e he hc
    · rw [if_pos (.inr h2)]
      exact split_3b value below v w h1 h2
  · rw [if_pos (.inl h1)]
    exact split_3a value below v w h1
end Go.Proofs.YtcmpindjgfojaaaDoor
