/- The plain law of drawings in which everybody opens the sealed box. -/
import Derived.Test.YtcmpindjgfojaaaDoorWitL
import Derived.Test.YtcmpindjgfojaaaDoorMissP
namespace Go.Proofs.YtcmpindjgfojaaaDoor
open Go.RowKit

theorem hexc_mem : ∀ d, d < 16 → hexSet.contains (hexc d) = true := by decide
theorem inSet_app (cs a b : List UInt8) : inSet cs (a ++ b) = (inSet cs a && inSet cs b) := by simp [inSet]
theorem hexL_in (u : Nat) : inSet hexSet (hexL u) = true := by
  induction u using Nat.strongRecOn with
  | _ u ih =>
    unfold hexL
    split
    · rename_i h
      simpa [inSet] using hexc_mem u h
    · rw [inSet_app, ih (u / 16) (by omega)]
      simpa [inSet] using hexc_mem (u % 16) (Nat.mod_lt _ (by decide))
theorem hashL_ok (l : List UInt8) : hashB (hashL l) = true := by
  obtain ⟨h0, h1⟩ := fnv_bd l
  obtain ⟨h2, h3⟩ := hexL_size 15 (fnv l).toNat (by omega)
  unfold hashB hashL hex16
  rw [inSet_app, hexL_in]
  have hr : inSet hexSet (List.replicate (16 - (hexL (fnv l).toNat).length) 48) = true := by
    unfold inSet
    rw [List.all_eq_true]
    intro x hx
    rw [(List.mem_replicate.1 hx).2]
    decide
  rw [hr]
  simp
  omega
/-- The salt with a number. -/
def saltL (n : Nat) : List UInt8 := [(97 + n % 26).toUInt8, (48 + n % 10).toUInt8]
theorem saltL_ok {n : Nat} (h : n < 256) : saltB (saltL n) = true := by
  have : ((List.range 256).all fun n => saltB (saltL n)) = true := by kernel_rfl
  exact List.all_eq_true.1 this n (List.mem_range.2 h)

structure Dr1 (below : Int) (n : Nat) (H : Nat → List UInt8) (i : Nat) (D : Drw) : Prop where
  below : D.below = below
  len : D.pers.length = n
  ns : D.nseal = i
  no : D.nopen = 0
  cl : D.closed = 0
  ln : D.lines.length = i + 1
  per : ∀ j p, D.pers[j]? = some p → p.opn = 0 ∧ (j < i → p.hash = H j) ∧ (i ≤ j → p.sl = 0)
theorem Dr1.new (below : Int) (n : Nat) (H : Nat → List UInt8) : Dr1 below n H 0 (newD below n) := by
  refine ⟨rfl, by simp [newD], rfl, rfl, rfl, rfl, fun j p hp => ?_⟩
  simp only [newD, List.getElem?_replicate] at hp
  split at hp
  · cases hp; exact ⟨rfl, fun h => by omega, fun _ => rfl⟩
  · cases hp
theorem Dr1.step {below : Int} {n i : Nat} {H : Nat → List UInt8} {D : Drw} (h : Dr1 below n H i D) (hi : i < n) (hH : hashB (H i) = true) :
    ∃ D', sealD D ((i : Int) + 1) (H i) = (0, D') ∧ Dr1 below n H (i + 1) D' := by
  obtain ⟨p, hp⟩ := get_some (xs := D.pers) (k := i) (by rw [h.len]; exact hi)
  obtain ⟨h1, h2, h3⟩ := h.per i p hp
  have hl := h.len
  have e : ((i : Int) + 1).toNat - 1 = i := by omega
  refine ⟨{ D with lines := D.lines ++ [lineL [[115, 101, 97, 108], Lib.itoa ((i : Int) + 1), H i]], pers := D.pers.set i { p with hash := H i, sl := D.lines.length + 1 }, nseal := D.nseal + 1 }, ?_, ?_⟩
  · unfold sealD
    rw [if_neg (by omega), hH, if_neg (by simp), e, hp]
    simp [h3 (Nat.le_refl _)]
  · refine ⟨h.below, by simp [hl], by simp [h.ns], h.no, h.cl, by simp [h.ln], fun j q hq => ?_⟩
    simp only [List.getElem?_set] at hq
    split at hq
    · rename_i hij
      subst hij
      split at hq
      · cases hq
        exact ⟨h1, fun _ => rfl, fun h' => by omega⟩
      · cases hq
    · obtain ⟨a1, a2, a3⟩ := h.per j q hq
      exact ⟨a1, fun h' => a2 (by omega), fun h' => a3 (by omega)⟩
structure Dr2 (below : Int) (n : Nat) (H : Nat → List UInt8) (V : Nat → Int) (m : Nat) (D : Drw) : Prop where
  below : D.below = below
  len : D.pers.length = n
  ns : D.nseal = n
  no : D.nopen = m
  cl : D.closed = 0
  ln : D.lines.length = n + 1 + m
  per : ∀ j p, D.pers[j]? = some p → p.hash = H j ∧ (j + m < n → p.opn = 0) ∧ (n ≤ j + m → 0 < p.opn ∧ p.right = true ∧ p.value = V j)
theorem Dr2.of {below : Int} {n : Nat} {H : Nat → List UInt8} (V : Nat → Int) {D : Drw} (h : Dr1 below n H n D) : Dr2 below n H V 0 D := by
  refine ⟨h.below, h.len, h.ns, h.no, h.cl, h.ln, fun j p hp => ?_⟩
  obtain ⟨a1, a2, a3⟩ := h.per j p hp
  have hj := (List.getElem?_eq_some_iff.1 hp).1
  rw [h.len] at hj
  exact ⟨a2 hj, fun _ => a1, fun h' => by omega⟩
theorem Dr2.step {below : Int} {n i m : Nat} {H : Nat → List UInt8} {V : Nat → Int} {D : Drw} {s : List UInt8} (h : Dr2 below n H V m D) (hi : i + m + 1 = n) (hv : 0 ≤ V i ∧ V i ≤ below - 1) (hs : saltB s = true) (hH : hashL (textL ((i : Int) + 1) (V i) s) = H i) :
    ∃ D', openD D ((i : Int) + 1) (V i) s = ((true, 0), D') ∧ Dr2 below n H V (m + 1) D' := by
  obtain ⟨p, hp⟩ := get_some (xs := D.pers) (k := i) (by rw [h.len]; omega)
  obtain ⟨h1, h2, h3⟩ := h.per i p hp
  have hl := h.len
  have e : ((i : Int) + 1).toNat - 1 = i := by omega
  have ho := h2 (by omega)
  have hrun : runB D = true := by
    unfold runB overB
    rw [h.ns, h.no, h.cl, hl]
    simp; omega
  have hb := h.below
  refine ⟨{ D with lines := D.lines ++ [lineL [[111, 112, 101, 110], Lib.itoa ((i : Int) + 1), Lib.itoa (V i), s]], pers := D.pers.set i { p with value := V i, opn := D.lines.length + 1, right := true }, nopen := D.nopen + 1 }, ?_, ?_⟩
  · unfold openD
    rw [if_neg (by omega), if_neg (by rw [hb]; omega), hs, if_neg (by simp), hrun, if_neg (by simp), e, hp]
    simp [ho, hH, h1]
  · refine ⟨hb, by simp [hl], h.ns, by simp [h.no], h.cl, by simp [h.ln]; omega, fun j q hq => ?_⟩
    simp only [List.getElem?_set] at hq
    split at hq
    · rename_i hij
      subst hij
      split at hq
      · cases hq
        exact ⟨h1, fun h' => by omega, fun _ => ⟨by simp, rfl, rfl⟩⟩
      · cases hq
    · obtain ⟨a1, a2, a3⟩ := h.per j q hq
      exact ⟨a1, fun h' => a2 (by omega), fun h' => a3 (by omega)⟩
theorem devsFrom_nil (closed : Nat) : ∀ (l : List Per) (i : Nat), (∀ p ∈ l, 0 < p.opn ∧ p.right = true) → devsFrom closed i l = []
  | [], i, h => rfl
  | p :: l, i, h => by
    obtain ⟨h1, h2⟩ := h p (by simp)
    unfold devsFrom
    rw [devsFrom_nil closed l (i + 1) (fun q hq => h q (by simp [hq]))]
    simp [devAt, h2]
    omega
theorem valF_sum {below : Int} (h1 : 1 ≤ below) : ∀ (l : List Per) (n : Int), 0 ≤ n → n < below → (∀ p ∈ l, 0 ≤ p.value ∧ p.value ≤ below - 1) → valF below n l = (n + (l.map Per.value).sum) % below
  | [], n, h0, hn, hx => by simp [valF]; exact (Int.emod_eq_of_lt h0 hn).symm
  | p :: r, n, h0, hn, hx => by
    have hp := hx p (by simp)
    unfold valF
    have e : (addFrom below 0 [n, p.value]).getD 0 = (n + p.value) % below := by
      rw [addFrom_sum h1 _ 0 (Int.le_refl 0) (by omega) (by
        intro y hy
        rcases List.mem_cons.1 hy with rfl | hy
        · omega
        · obtain rfl := List.mem_singleton.1 hy
          exact hp)]
      simp
    rw [e, valF_sum h1 r _ (Int.emod_nonneg _ (by omega)) (Int.emod_lt_of_pos _ (by omega)) (fun y hy => hx y (by simp [hy]))]
    simp [Int.add_assoc]
theorem Dr2.done {below : Int} {n : Nat} {H : Nat → List UInt8} {V : Nat → Int} {D : Drw} (h : Dr2 below n H V n D) (h1 : 1 ≤ below) (hV : ∀ j, j < n → 0 ≤ V j ∧ V j ≤ below - 1) :
    devs D = [] ∧ valR D = (((List.range n).map V).sum % below, 0) := by
  have hall : ∀ p ∈ D.pers, 0 < p.opn ∧ p.right = true := by
    intro p hp
    obtain ⟨j, hj⟩ := List.getElem?_of_mem hp
    obtain ⟨_, _, a3⟩ := h.per j p hj
    exact ⟨(a3 (by omega)).1, (a3 (by omega)).2.1⟩
  have hd : devs D = [] := devsFrom_nil _ _ _ hall
  have hm : D.pers.map Per.value = (List.range n).map V := by
    apply List.ext_getElem?
    intro j
    rw [List.getElem?_map, List.getElem?_map]
    by_cases hj : j < n
    · obtain ⟨p, hp⟩ := get_some (xs := D.pers) (k := j) (by rw [h.len]; exact hj)
      rw [hp, List.getElem?_range hj]
      simp [((h.per j p hp).2.2 (by omega)).2.2]
    · rw [List.getElem?_eq_none (by rw [h.len]; omega), List.getElem?_eq_none (by simp; omega)]
      rfl
  have hov : overB D = true := by
    unfold overB
    rw [h.no, h.len]; simp
  refine ⟨hd, ?_⟩
  unfold valR
  rw [hov, hd, if_neg (by simp), if_pos rfl, valF_sum (by rw [h.below]; exact h1) D.pers 0 (Int.le_refl 0) (by rw [h.below]; omega) ?_, hm, h.below]
  · simp
  · intro p hp
    obtain ⟨j, hj⟩ := List.getElem?_of_mem hp
    have hjl := (List.getElem?_eq_some_iff.1 hj).1
    rw [h.len] at hjl
    rw [((h.per j p hj).2.2 (by omega)).2.2, h.below]
    exact hV j hjl
end Go.Proofs.YtcmpindjgfojaaaDoor
