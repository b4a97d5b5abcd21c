/- The plain law of WitnessMissing. -/
import Derived.Test.YtcmpindjgfojaaaDoorWitJ
namespace Go.Proofs.YtcmpindjgfojaaaDoor

theorem addFrom_sum {below : Int} (h1 : 1 ≤ below) : ∀ (xs : List Int) (n : Int), 0 ≤ n → n < below → (∀ x ∈ xs, 0 ≤ x ∧ x ≤ below - 1) → addFrom below n xs = some ((n + xs.sum) % below)
  | [], n, h0, hn, hx => by simp [addFrom]; exact (Int.emod_eq_of_lt h0 hn).symm
  | x :: r, n, h0, hn, hx => by
    unfold addFrom
    rw [if_pos (hx x (by simp)), addFrom_sum h1 r _ (Int.emod_nonneg _ (by omega)) (Int.emod_lt_of_pos _ (by omega)) (fun y hy => hx y (by simp [hy]))]
    simp [Int.add_assoc]
theorem combineR_sum {below : Int} (h1 : 1 ≤ below) (h2 : below ≤ 1000000000) (xs : List Int) (hl : xs.length ≤ 30) (hx : ∀ x ∈ xs, 0 ≤ x ∧ x ≤ below - 1) : combineR below xs = (xs.sum % below, 0) := by
  unfold combineR
  rw [if_neg (by omega), if_neg (by omega), addFrom_sum h1 xs 0 (Int.le_refl 0) (by omega) hx]
  simp
/-- The share that Split adds. -/
def lastS (v below : Int) (xs : List Int) : Int := (v - xs.sum) % below
theorem splitR_sum {v below : Int} (h1 : 1 ≤ below) (h2 : below ≤ 1000000000) (h3 : 0 ≤ v) (h4 : v ≤ below - 1) (xs : List Int) (hl : xs.length ≤ 30) (hx : ∀ x ∈ xs, 0 ≤ x ∧ x ≤ below - 1) :
    splitR v below xs = (xs ++ [lastS v below xs], 0) := by
  have hm0 : 0 ≤ (below - xs.sum % below) % below := Int.emod_nonneg _ (by omega)
  have hm1 : (below - xs.sum % below) % below < below := Int.emod_lt_of_pos _ (by omega)
  unfold splitR
  rw [if_neg (by omega), combineR_sum h1 h2 xs hl hx, if_neg (by simp), addFrom_sum h1 _ 0 (Int.le_refl 0) (by omega) (by
    intro y hy
    rcases List.mem_cons.1 hy with rfl | hy
    · exact ⟨h3, h4⟩
    · obtain rfl := List.mem_singleton.1 hy
      simp only; omega)]
  have : (0 + [v, (below - xs.sum % below) % below].sum) % below = lastS v below xs := by
    unfold lastS
    simp only [List.sum_cons, List.sum_nil, Int.add_zero, Int.zero_add]
    rw [Int.add_emod_emod, show v + (below - xs.sum % below) = (v - xs.sum % below) + below by omega, Int.add_emod_right]
    rw [Int.sub_emod, Int.emod_emod, ← Int.sub_emod]
  rw [this]; rfl
theorem lastS_bd {v below : Int} (h1 : 1 ≤ below) (xs : List Int) : 0 ≤ lastS v below xs ∧ lastS v below xs < below := ⟨Int.emod_nonneg _ (by omega), Int.emod_lt_of_pos _ (by omega)⟩
theorem combine_split {v below : Int} (h1 : 1 ≤ below) (h2 : below ≤ 1000000000) (h3 : 0 ≤ v) (h4 : v ≤ below - 1) (xs : List Int) (hl : xs.length ≤ 29) (hx : ∀ x ∈ xs, 0 ≤ x ∧ x ≤ below - 1) :
    combineR below (xs ++ [lastS v below xs]) = (v, 0) ∧ combineR below (xs ++ [lastS v below xs]).reverse = (v, 0) := by
  have hb := lastS_bd (v := v) h1 xs
  have hs : (xs.sum + lastS v below xs) % below = v := by
    unfold lastS
    rw [Int.add_emod_emod]  
    rw [show xs.sum + (v - xs.sum) = v by omega]
    exact Int.emod_eq_of_lt h3 (by omega)
  constructor
  · rw [combineR_sum h1 h2 _ (by simp; omega) (by intro y hy; simp at hy; rcases hy with hy | rfl; exact hx y hy; omega)]
    simp [hs]
  · rw [combineR_sum h1 h2 _ (by simp; omega) (by intro y hy; simp at hy; rcases hy with rfl | hy; omega; exact hx y hy)]
    simp only [List.reverse_append, List.reverse_cons, List.reverse_nil, List.nil_append, List.cons_append, List.sum_cons]
    rw [show xs.reverse.sum = xs.sum by exact List.sum_reverse xs]
    rw [Int.add_comm, hs]
/-- What is seen behind v rounds. -/
def seenL (n : Nat) (s : Int) (v : Nat) : List Int := (List.range n).map fun j : Nat => if ((j : Int) + s) % n < v then 1 else 0
theorem seen_zero (n : Nat) (s : Int) : seenL n s 0 = List.replicate n 0 := by
  apply List.ext_getElem
  · simp [seenL]
  · intro j h1 h2
    simp [seenL] at h1 ⊢
    exact Int.emod_nonneg _ (by omega)
theorem seen_len (n : Nat) (s : Int) (v : Nat) : (seenL n s v).length = n := by simp [seenL]
theorem seen_get {n : Nat} (s : Int) (v : Nat) {j : Nat} (hj : j < n) : (seenL n s v)[j]? = some (if ((j : Int) + s) % n < v then 1 else 0) := by
  simp [seenL, hj]
theorem seen_at {n v : Nat} {G : List Int} (hn : 1 ≤ n) (hv : v < n) {l : Nat} (hl : lastS v n G = (l : Int)) : l < n ∧ (seenL n G.sum v)[l]? = some 0 ∧ (seenL n G.sum v).set l 1 = seenL n G.sum (v + 1) := by
  have hb := lastS_bd (v := v) (below := n) (by omega) G
  have hln : l < n := by omega
  have hs : ((l : Int) + G.sum) % n = v := by
    rw [← hl]; unfold lastS
    rw [Int.emod_add_emod, show (v : Int) - G.sum + G.sum = v by omega]
    exact Int.emod_eq_of_lt (by omega) (by omega)
  refine ⟨hln, ?_, ?_⟩
  · rw [seen_get _ _ hln, hs]; simp
  · apply List.ext_getElem?
    intro j
    by_cases hj : j < n
    · by_cases e : j = l
      · subst e
        rw [List.getElem?_set_self (by rw [seen_len]; exact hj), seen_get _ _ hj, hs]
        simp; omega
      · rw [List.getElem?_set_ne (Ne.symm e), seen_get _ _ hj, seen_get _ _ hj]
        have hne : ((j : Int) + G.sum) % n ≠ v := by
          intro h
          have h1 : ((j : Int) + G.sum - G.sum) % n = ((l : Int) + G.sum - G.sum) % n := by
            rw [Int.sub_emod, h, ← hs, ← Int.sub_emod]
          rw [show (j : Int) + G.sum - G.sum = j by omega, show (l : Int) + G.sum - G.sum = l by omega, Int.emod_eq_of_lt (by omega) (by omega), Int.emod_eq_of_lt (by omega) (by omega)] at h1
          omega
        by_cases hlt : ((j : Int) + G.sum) % n < v
        · rw [if_pos hlt, if_pos (by omega)]
        · rw [if_neg hlt, if_neg (by omega)]
    · rw [List.getElem?_eq_none (by simp [seen_len]; omega), List.getElem?_eq_none (by rw [seen_len]; omega)]
theorem seen_end {n : Nat} (s : Int) {j : Nat} (hj : j < n) : (seenL n s n)[j]? = some 1 := by
  rw [seen_get _ _ hj, if_pos (Int.emod_lt_of_pos _ (by omega))]
end Go.Proofs.YtcmpindjgfojaaaDoor
