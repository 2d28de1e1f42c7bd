/- Parts of the proof of a statement of this seat: contracts of functions that the law calls, or the law's own row; no condition. -/
import Derived.Test.YtagocdkcnajiiaaGreatM7
/- Parts of boxes, plain law: lowest terms, halves, parts by indices; no condition beyond stated ranges. -/
namespace Go.Proofs.YtagocdkcnajiiaaGreat
open Go.Ab Ints
set_option linter.unusedSimpArgs false
set_option linter.unusedVariables false
def dbl (l : List Int) : List Int := l.map (2 * ·)
theorem dbl_length (l : List Int) : (dbl l).length = l.length := by simp [dbl]
theorem dbl_append (l m : List Int) : dbl (l ++ m) = dbl l ++ dbl m := by simp [dbl]
theorem dbl_cons (a : Int) (l : List Int) : dbl (a :: l) = 2 * a :: dbl l := rfl
theorem hv_two (x : Int) : hv (2 * x) = x := by
 unfold hv
 exact Int.mul_tdiv_cancel_left x (by decide)
theorem dbl_hv : ∀ l : List Int, (dbl l).map hv = l
 | [] => rfl
 | a :: l => by rw [dbl_cons, List.map_cons, hv_two, dbl_hv l]
theorem oddB_dbl : ∀ l h : List Int, oddB (dbl l) (dbl h) = false
 | [], _ => by cases ‹List Int› <;> rfl
 | _ :: _, [] => rfl
 | a :: l, b :: h => by
   rw [dbl_cons, dbl_cons, oddB, oddB_dbl l h, Int.mul_tmod_right, Int.mul_tmod_right]
   rfl
theorem normB_dbl (k : Nat) (l h : List Int) : normB (k + 1) (dbl l) (dbl h) = normB k l h := by
 rw [normB, if_neg (by rw [oddB_dbl]; decide), dbl_hv, dbl_hv]
def dblN : Nat → List Int → List Int
 | 0, l => l
 | j + 1, l => dbl (dblN j l)
theorem normB_dblN (k : Nat) (l h : List Int) : ∀ j : Nat, normB (k + j) (dblN j l) (dblN j h) = normB k l h
 | 0 => rfl
 | j + 1 => by rw [dblN, dblN, ← Nat.add_assoc, normB_dbl, normB_dblN k l h j]
theorem hv_even {x : Int} (h : x.tmod 2 = 0) : 2 * hv x = x := by
 unfold hv
 have := Int.tmod_add_mul_tdiv x 2
 omega
theorem even_dbl : ∀ (l h : List Int), h.length = l.length → oddB l h = false → dbl (l.map hv) = l ∧ dbl (h.map hv) = h
 | [], h, hl, _ => by
   have : h = [] := List.length_eq_zero_iff.1 (by simpa using hl)
   subst this
   exact ⟨rfl, rfl⟩
 | a :: l, [], hl, _ => by simp at hl
 | a :: l, b :: h, hl, ho => by
   simp only [oddB, Bool.or_eq_false_iff, bne_eq_false_iff_eq] at ho
   obtain ⟨e1, e2⟩ := even_dbl l h (by simpa using hl) ho.2
   rw [List.map_cons, List.map_cons, dbl_cons, dbl_cons, e1, e2, hv_even ho.1.1, hv_even ho.1.2]
   exact ⟨rfl, rfl⟩
theorem normB_back : ∀ (k : Nat) (l h : List Int), h.length = l.length → ∃ j, k = (normB k l h).1 + j ∧ l = dblN j (normB k l h).2.1 ∧ h = dblN j (normB k l h).2.2
 | 0, l, h, _ => ⟨0, rfl, rfl, rfl⟩
 | k + 1, l, h, hl => by
   by_cases ho : oddB l h = true
   · rw [normB, if_pos ho]
     exact ⟨0, rfl, rfl, rfl⟩
   · rw [normB, if_neg ho]
     obtain ⟨j, e1, e2, e3⟩ := normB_back k (l.map hv) (h.map hv) (by simp [hl])
     obtain ⟨d1, d2⟩ := even_dbl l h hl (by simpa using ho)
     exact ⟨j + 1, by omega, by rw [dblN, ← e2, d1], by rw [dblN, ← e3, d2]⟩
theorem dblN_length (l : List Int) : ∀ j, (dblN j l).length = l.length
 | 0 => rfl
 | j + 1 => by rw [dblN, dbl_length, dblN_length l j]
theorem normB_len (k : Nat) (l h : List Int) (hl : h.length = l.length) : (normB k l h).2.1.length = l.length ∧ (normB k l h).2.2.length = l.length := by
 obtain ⟨j, _, e2, e3⟩ := normB_back k l h hl
 have h1 := congrArg List.length e2
 have h2 := congrArg List.length e3
 rw [dblN_length] at h1 h2
 omega
theorem normB_low : ∀ (k : Nat) (l h : List Int), (normB k l h).1 ≤ k
 | 0, _, _ => Nat.le_refl _
 | k + 1, l, h => by
   rw [normB]
   split
   · exact Nat.le_refl _
   · exact Nat.le_succ_of_le (normB_low k _ _)
theorem normB_odd : ∀ (k : Nat) (l h : List Int), (normB k l h).1 = 0 ∨ oddB (normB k l h).2.1 (normB k l h).2.2 = true
 | 0, _, _ => .inl rfl
 | k + 1, l, h => by
   rw [normB]
   split
   · rename_i ho; exact .inr ho
   · exact normB_odd k _ _
theorem rngB_dbl (m : Int) : ∀ l h : List Int, rngB (2 * m) (dbl l) (dbl h) = rngB m l h
 | [], _ => by cases ‹List Int› <;> rfl
 | _ :: _, [] => rfl
 | a :: l, b :: h => by
   rw [dbl_cons, dbl_cons, rngB, rngB, rngB_dbl m l h]
   have e : ∀ x y : Int, decide (2 * x ≤ 2 * y) = decide (x ≤ y) := fun x y => by
     by_cases h : x ≤ y
     · rw [decide_eq_true h, decide_eq_true (by omega)]
     · rw [decide_eq_false h, decide_eq_false (by omega)]
   have e2 : decide (2 * a < 2 * b) = decide (a < b) := by
     by_cases h : a < b
     · rw [decide_eq_true h, decide_eq_true (by omega)]
     · rw [decide_eq_false h, decide_eq_false (by omega)]
   rw [show -(2 * m) = 2 * -m by omega, e, e, e, e, e2]
theorem rngB_dblN (m : Int) (l h : List Int) : ∀ j : Nat, rngB (m * 2 ^ j) (dblN j l) (dblN j h) = rngB m l h
 | 0 => by rw [Int.pow_zero, Int.mul_one]; rfl
 | j + 1 => by rw [dblN, dblN, Int.pow_succ, ← Int.mul_assoc, Int.mul_comm _ 2, rngB_dbl, rngB_dblN m l h j]
theorem rngB_append (m : Int) : ∀ (l h l' h' : List Int), h.length = l.length → rngB m (l ++ l') (h ++ h') = (rngB m l h && rngB m l' h')
 | [], h, l', h', hl => by
   have : h = [] := List.length_eq_zero_iff.1 (by simpa using hl)
   subst this
   rfl
 | a :: l, [], _, _, hl => by simp at hl
 | a :: l, b :: h, l', h', hl => by
   rw [List.cons_append, List.cons_append, rngB, rngB, rngB_append m l h l' h' (by simpa using hl)]
   simp only [Bool.and_assoc]
theorem norm_good {k : Nat} {l h : List Int} (hl : h.length = l.length) (h1 : 1 ≤ l.length) (h3 : l.length ≤ 3) (hk : k ≤ 8) (hr : rngB (8 * 2 ^ k) l h = true) : goodB (normB k l h).1 (normB k l h).2.1 (normB k l h).2.2 = true := by
 obtain ⟨j, e1, e2, e3⟩ := normB_back k l h hl
 obtain ⟨n1, n2⟩ := normB_len k l h hl
 have hkl := normB_low k l h
 have ho := normB_odd k l h
 generalize normB k l h = r at *
 obtain ⟨k', l', h'⟩ := r
 simp only at *
 subst e1 e2 e3
 rw [Int.pow_add, ← Int.mul_assoc, rngB_dblN] at hr
 rw [dblN_length] at h1 h3 n1 n2
 simp only [goodB, Bool.and_eq_true, decide_eq_true_eq, Bool.not_eq_true', bne_eq_false_iff_eq, Bool.or_eq_true, beq_iff_eq]
 refine ⟨⟨⟨⟨⟨by omega, by omega⟩, by omega, by omega⟩, by omega⟩, by simpa using hr⟩, ?_⟩
 rcases ho with ho | ho
 · exact .inl (by omega)
 · exact .inr ho
theorem getD_dbl (l : List Int) (s : Nat) : (dbl l).getD s 0 = 2 * l.getD s 0 := by
 simp only [dbl, List.getD_eq_getElem?_getD, List.getElem?_map]
 cases l[s]? <;> simp
theorem set_dbl (l : List Int) (s : Nat) (x : Int) : (dbl l).set s (2 * x) = dbl (l.set s x) := by
 simp only [dbl, List.map_set]
theorem dbl_dblN (l : List Int) : ∀ j, dbl (dblN j l) = dblN j (dbl l)
 | 0 => rfl
 | j + 1 => by rw [dblN, dbl_dblN l j]; rfl
theorem mid_dblN (l h x : List Int) (s : Nat) : ∀ j, (dbl (dblN j x)).set s ((dblN j l).getD s 0 + (dblN j h).getD s 0) = dblN j ((dbl x).set s (l.getD s 0 + h.getD s 0))
 | 0 => rfl
 | j + 1 => by
   simp only [dblN, getD_dbl]
   rw [← Int.mul_add, set_dbl, mid_dblN l h x s j]
theorem half0 (k : Nat) (l h : List Int) (s : Nat) (hl : h.length = l.length) :
   normB ((normB k l h).1 + 1) (dbl (normB k l h).2.1) ((dbl (normB k l h).2.2).set s ((normB k l h).2.1.getD s 0 + (normB k l h).2.2.getD s 0)) = normB (k + 1) (dbl l) ((dbl h).set s (l.getD s 0 + h.getD s 0)) := by
 obtain ⟨j, e1, e2, e3⟩ := normB_back k l h hl
 generalize normB k l h = r at *
 obtain ⟨k', l', h'⟩ := r
 simp only at *
 subst e1 e2 e3
 rw [mid_dblN, dbl_dblN, Nat.add_right_comm, normB_dblN]
theorem half1 (k : Nat) (l h : List Int) (s : Nat) (hl : h.length = l.length) :
   normB ((normB k l h).1 + 1) ((dbl (normB k l h).2.1).set s ((normB k l h).2.1.getD s 0 + (normB k l h).2.2.getD s 0)) (dbl (normB k l h).2.2) = normB (k + 1) ((dbl l).set s (l.getD s 0 + h.getD s 0)) (dbl h) := by
 obtain ⟨j, e1, e2, e3⟩ := normB_back k l h hl
 generalize normB k l h = r at *
 obtain ⟨k', l', h'⟩ := r
 simp only at *
 subst e1 e2 e3
 rw [mid_dblN, dbl_dblN, Nat.add_right_comm, normB_dblN]
def lowR (r : Nat) : List Int → List Int → List Nat → List Int
 | a :: av, h :: hs, i :: is => (2 ^ r * a + i * (h - a)) :: lowR r av hs is
 | _, _, _ => []
def highR (r : Nat) : List Int → List Int → List Nat → List Int
 | a :: av, h :: hs, i :: is => (2 ^ r * a + (i + 1) * (h - a)) :: highR r av hs is
 | _, _, _ => []
theorem lowR_length (r : Nat) : ∀ (av hs : List Int) (is : List Nat), hs.length = av.length → is.length = av.length → (lowR r av hs is).length = av.length
 | [], _, _, _, _ => rfl
 | a :: av, h :: hs, i :: is, h1, h2 => by simp [lowR, lowR_length r av hs is (by simpa using h1) (by simpa using h2)]
 | a :: av, [], _, h1, _ => by simp at h1
 | a :: av, h :: hs, [], _, h2 => by simp at h2
theorem highR_length (r : Nat) : ∀ (av hs : List Int) (is : List Nat), hs.length = av.length → is.length = av.length → (highR r av hs is).length = av.length
 | [], _, _, _, _ => rfl
 | a :: av, h :: hs, i :: is, h1, h2 => by simp [highR, highR_length r av hs is (by simpa using h1) (by simpa using h2)]
 | a :: av, [], _, h1, _ => by simp at h1
 | a :: av, h :: hs, [], _, h2 => by simp at h2
theorem side_rng {m a h : Int} {r i : Nat} (h1 : -m ≤ a) (h2 : h ≤ m) (h3 : a < h) (hi : i + 1 ≤ 2 ^ r) :
   -(m * 2 ^ r) ≤ 2 ^ r * a + i * (h - a) ∧ 2 ^ r * a + i * (h - a) ≤ m * 2 ^ r ∧ -(m * 2 ^ r) ≤ 2 ^ r * a + (i + 1) * (h - a) ∧ 2 ^ r * a + (i + 1) * (h - a) ≤ m * 2 ^ r ∧ 2 ^ r * a + i * (h - a) < 2 ^ r * a + (i + 1) * (h - a) := by
 have e : ((2 ^ r : Nat) : Int) = (2 : Int) ^ r := by push_cast; rfl
 have hp : (1 : Int) ≤ 2 ^ r := by rw [← e]; have := Nat.one_le_two_pow (n := r); omega
 have hi' : ((i : Int) + 1) ≤ 2 ^ r := by rw [← e]; omega
 have hlen : 0 < h - a := by omega
 have q1 : 0 ≤ (i : Int) * (h - a) := Int.mul_nonneg (by omega) (by omega)
 have q2 : ((i : Int) + 1) * (h - a) ≤ 2 ^ r * (h - a) := Int.mul_le_mul_of_nonneg_right hi' (by omega)
 have q3 : ((i : Int) + 1) * (h - a) = i * (h - a) + (h - a) := by rw [Int.add_mul, Int.one_mul]
 have q4 : (2 : Int) ^ r * (h - a) = 2 ^ r * h - 2 ^ r * a := Int.mul_sub ..
 have q5 : (2 : Int) ^ r * -m ≤ 2 ^ r * a := Int.mul_le_mul_of_nonneg_left h1 (by omega)
 have q6 : (2 : Int) ^ r * h ≤ 2 ^ r * m := Int.mul_le_mul_of_nonneg_left h2 (by omega)
 have q7 : (2 : Int) ^ r * -m = -(m * 2 ^ r) := by rw [Int.mul_neg, Int.mul_comm]
 have q8 : (2 : Int) ^ r * m = m * 2 ^ r := Int.mul_comm ..
 generalize (2 : Int) ^ r * a = A at *
 generalize (2 : Int) ^ r * h = B at *
 generalize (2 : Int) ^ r * (h - a) = D at *
 generalize (i : Int) * (h - a) = E at *
 generalize ((i : Int) + 1) * (h - a) = F at *
 generalize m * (2 : Int) ^ r = M at *
 omega
theorem lev_rng {m : Int} {r : Nat} : ∀ {av hs : List Int} {is : List Nat}, rngB m av hs = true → (∀ i ∈ is, i + 1 ≤ 2 ^ r) → rngB (m * 2 ^ r) (lowR r av hs is) (highR r av hs is) = true
 | [], _, _, _, _ => by simp [lowR, rngB]
 | a :: av, [], _, _, _ => by simp [lowR, rngB]
 | a :: av, h :: hs, [], _, _ => by simp [lowR, rngB]
 | a :: av, h :: hs, i :: is, hr, hi => by
   simp only [rngB, Bool.and_eq_true, decide_eq_true_eq] at hr
   obtain ⟨⟨⟨⟨a1, a2⟩, a3, a4⟩, a5⟩, a6⟩ := hr
   obtain ⟨g1, g2, g3, g4, g5⟩ := side_rng (r := r) (i := i) a1 a4 a5 (hi i (by simp))
   simp only [lowR, highR, rngB, Bool.and_eq_true, decide_eq_true_eq]
   exact ⟨⟨⟨⟨g1, g2⟩, g3, g4⟩, g5⟩, lev_rng a6 fun j hj => hi j (by simp [hj])⟩
def bitsI : List Nat → List (List Nat)
 | [] => [[]]
 | i :: is => (bitsI is).map ((2 * i) :: ·) ++ (bitsI is).map ((2 * i + 1) :: ·)
def partsL (k r : Nat) (pl ph av hs : List Int) (is : List Nat) : List (Nat × List Int × List Int) := (bitsI is).map fun v => normB k (pl ++ lowR (r + 1) av hs v) (ph ++ highR (r + 1) av hs v)
theorem partsL_nil (k r : Nat) (pl ph av hs : List Int) : partsL k r pl ph av hs [] = [normB k pl ph] := by
 cases av <;> cases hs <;> simp [partsL, bitsI, lowR, highR]
theorem partsL_cons (k r : Nat) (pl ph av hs : List Int) (a h : Int) (i : Nat) (is : List Nat) :
   partsL k r pl ph (a :: av) (h :: hs) (i :: is) =
     partsL k r (pl ++ [2 ^ (r + 1) * a + (2 * i : Nat) * (h - a)]) (ph ++ [2 ^ (r + 1) * a + ((2 * i : Nat) + 1) * (h - a)]) av hs is ++
     partsL k r (pl ++ [2 ^ (r + 1) * a + (2 * i + 1 : Nat) * (h - a)]) (ph ++ [2 ^ (r + 1) * a + ((2 * i + 1 : Nat) + 1) * (h - a)]) av hs is := by
 simp only [partsL, bitsI, List.map_append, List.map_map]
 congr 1 <;> refine List.map_congr_left fun v _ => ?_ <;> simp [lowR, highR]
theorem set_mid (x y : List Int) (a b : Int) : (x ++ a :: y).set x.length b = x ++ b :: y := by
 rw [List.set_append_right _ _ (Nat.le_refl _), Nat.sub_self]
 rfl
theorem getD_mid (x y : List Int) (a : Int) : (x ++ a :: y).getD x.length 0 = a := by
 rw [List.getD_eq_getElem?_getD, List.getElem?_append_right (Nat.le_refl _), Nat.sub_self]
 rfl
theorem half_lev (k r : Nat) (pl ph av hs : List Int) (a h : Int) (i : Nat) (is : List Nat) (hp : ph.length = pl.length) :
   normB (k + 1) (dbl (pl ++ dbl (lowR r (a :: av) (h :: hs) (i :: is)))) ((dbl (ph ++ dbl (highR r (a :: av) (h :: hs) (i :: is)))).set pl.length ((pl ++ dbl (lowR r (a :: av) (h :: hs) (i :: is))).getD pl.length 0 + (ph ++ dbl (highR r (a :: av) (h :: hs) (i :: is))).getD pl.length 0)) =
     normB k ((pl ++ [2 ^ (r + 1) * a + (2 * i : Nat) * (h - a)]) ++ dbl (lowR r av hs is)) ((ph ++ [2 ^ (r + 1) * a + ((2 * i : Nat) + 1) * (h - a)]) ++ dbl (highR r av hs is)) ∧
   normB (k + 1) ((dbl (pl ++ dbl (lowR r (a :: av) (h :: hs) (i :: is)))).set pl.length ((pl ++ dbl (lowR r (a :: av) (h :: hs) (i :: is))).getD pl.length 0 + (ph ++ dbl (highR r (a :: av) (h :: hs) (i :: is))).getD pl.length 0)) (dbl (ph ++ dbl (highR r (a :: av) (h :: hs) (i :: is)))) =
     normB k ((pl ++ [2 ^ (r + 1) * a + (2 * i + 1 : Nat) * (h - a)]) ++ dbl (lowR r av hs is)) ((ph ++ [2 ^ (r + 1) * a + ((2 * i + 1 : Nat) + 1) * (h - a)]) ++ dbl (highR r av hs is)) := by
 have e : (2 : Int) ^ (r + 1) * a = 2 * (2 ^ r * a) := by rw [Int.pow_succ, Int.mul_comm (2 ^ r) 2, Int.mul_assoc]
 have c1 : (((2 * i : Nat) : Int)) * (h - a) = 2 * (i * (h - a)) := by push_cast; rw [Int.mul_assoc]
 have c2 : (((2 * i : Nat) : Int) + 1) * (h - a) = 2 * (i * (h - a)) + (h - a) := by rw [Int.add_mul, c1, Int.one_mul]
 have c3 : (((2 * i + 1 : Nat) : Int)) * (h - a) = 2 * (i * (h - a)) + (h - a) := by rw [← c2]; push_cast; rfl
 have c4 : (((2 * i + 1 : Nat) : Int) + 1) * (h - a) = 2 * (i * (h - a)) + (h - a) + (h - a) := by rw [Int.add_mul, c3, Int.one_mul]
 have c5 : ((i : Int) + 1) * (h - a) = i * (h - a) + (h - a) := by rw [Int.add_mul, Int.one_mul]
 rw [lowR, highR, dbl_cons, dbl_cons, getD_mid, ← hp, getD_mid, e, c1, c2, c3, c4, c5]
 generalize (2 : Int) ^ r * a = A
 generalize (i : Int) * (h - a) = E
 generalize h - a = D
 have key : 2 * (A + E) + 2 * (A + (E + D)) = 2 * (2 * A + (2 * E + D)) := by omega
 have k1 : 2 * (A + E) = 2 * A + 2 * E := by omega
 have k2 : 2 * (A + (E + D)) = 2 * A + (2 * E + D + D) := by omega
 constructor
 · rw [key, set_dbl, set_mid, k1, normB_dbl, List.append_assoc, List.append_assoc]
   rfl
 · rw [key, hp, set_dbl, set_mid, k2, normB_dbl, List.append_assoc, List.append_assoc]
   rfl
def lexB : List Nat → List Nat → Bool
 | i :: is, j :: js => if i = j then lexB is js else decide (i < j)
 | _, _ => false
def cutAt {α : Type} (lt : α → α → Bool) (x : α) (out : List α) : Nat → Nat
 | 0 => 0
 | k + 1 => match out[k]? with
   | some y => if lt x y then cutAt lt x out k else k + 1
   | none => k + 1
def insL {α : Type} (lt : α → α → Bool) (out : List α) (x : α) : List α := out.take (cutAt lt x out out.length) ++ x :: out.drop (cutAt lt x out out.length)
def sortB {α : Type} (lt : α → α → Bool) (l : List α) : List α := l.foldl (insL lt) []
def idxL (n : Nat) : Nat → List (List Nat)
 | 0 => [List.replicate n 0]
 | r + 1 => (idxL n r).flatMap bitsI
def gridI (m : Nat) : Nat → List (List Nat)
 | 0 => [[]]
 | n + 1 => (gridI m n).flatMap fun l => (List.range m).map fun i => l ++ [i]
theorem sort_grid : ∀ n : Fin 4, ∀ t : Fin 3, sortB lexB (idxL n.val t.val) = gridI (2 ^ t.val) n.val := by decide +kernel
structure BX where
 k : Nat
 s : Value
 t : Value
 lo : List Int
 hi : List Int
def bxc (x : BX) : List Value := [.int .i64 x.k, x.s, x.t]
def bxv (x : BX) : Value := .agg #[.int .i64 x.k, x.s, x.t]
def dat (x : BX) : Nat × List Int × List Int := (x.k, x.lo, x.hi)
theorem cells_bxv (x : BX) : cellsV (bxv x) = some (bxc x) := rfl
def bxs (l : List BX) : List Value := l.flatMap bxc
theorem bxs_cons (x : BX) (l : List BX) : bxs (x :: l) = bxc x ++ bxs l := rfl
theorem bxs_append (l m : List BX) : bxs (l ++ m) = bxs l ++ bxs m := by simp [bxs]
theorem bxs_length (l : List BX) : (bxs l).length = l.length * 3 := by
 induction l with
 | nil => rfl
 | cons x l ih => rw [bxs_cons, List.length_append, ih, List.length_cons]; simp [bxc]; omega
theorem bxs_at : ∀ {l : List BX} {i : Nat} {x : BX}, l[i]? = some x → ((bxs l).drop (i * 3)).take 3 = bxc x
 | [], i, x, h => by simp at h
 | a :: l, 0, x, h => by
   simp only [xgz, xsj] at h
   subst h
   rw [bxs_cons]
   rfl
 | a :: l, i + 1, x, h => by
   have e : (bxs (a :: l)).drop ((i + 1) * 3) = (bxs l).drop (i * 3) := by
     rw [bxs_cons, List.drop_append, List.drop_of_length_le (by simp [bxc]; omega), List.nil_append]
     congr 1
     simp [bxc]; omega
   rw [e]
   exact bxs_at (by simpa using h)
theorem bxs_take (l : List BX) (k : Nat) : (bxs l).take (k * 3) = bxs (l.take k) := by
 induction l generalizing k with
 | nil => simp [bxs]
 | cons a l ih =>
   cases k with
   | zero => simp [bxs]
   | succ k =>
     rw [bxs_cons, List.take_succ_cons, bxs_cons, List.take_append, ← ih k]
     rw [List.take_of_length_le (by simp [bxc]; omega)]
     congr 2
     simp [bxc]; omega
theorem bxs_drop (l : List BX) (k : Nat) : (bxs l).drop (k * 3) = bxs (l.drop k) := by
 induction l generalizing k with
 | nil => simp [bxs]
 | cons a l ih =>
   cases k with
   | zero => simp
   | succ k =>
     rw [bxs_cons, List.drop_succ_cons, List.drop_append, ← ih k, List.drop_of_length_le (by simp [bxc]; omega), List.nil_append]
     congr 1
     simp [bxc]; omega
theorem putB_shift (a l x : List Value) (o : Nat) : putL (a ++ l) (a.length + o) x = a ++ putL l o x := by
 simp only [putL, List.take_append, List.drop_append, List.append_assoc]
 rw [List.take_of_length_le (by omega), List.drop_of_length_le (by omega)]
 simp [Nat.add_sub_cancel_left, Nat.add_assoc]
theorem bxs_set : ∀ {l : List BX} {i : Nat} (x : BX), i < l.length → putL (bxs l) (i * 3) (bxc x) = bxs (l.set i x)
 | [], i, x, h => by simp at h
 | a :: l, 0, x, h => by simp [putL, bxs_cons, bxc]
 | a :: l, i + 1, x, h => by
   rw [List.set_cons_succ, bxs_cons, bxs_cons, show (i + 1) * 3 = (bxc a).length + i * 3 by simp [bxc]; omega, putB_shift, bxs_set x (by simpa using h)]
def SlB (H : AHeap) (v : Value) (es : List BX) : Prop := Sl H v es.length 3 (bxs es) ∧ ∀ x ∈ es, SlI H x.s x.lo ∧ SlI H x.t x.hi
theorem SlB.ext {H H' : AHeap} {v : Value} {es : List BX} (h : SlB H v es) (hx : Ext H H') : SlB H' v es :=
 ⟨h.1.keep (Keep.of_ext hx (Nat.le_refl _)) (Nat.le_refl _), fun x hxm => ⟨SlI.ext (h.2 x hxm).1 hx, SlI.ext (h.2 x hxm).2 hx⟩⟩
theorem SlB.lenV {H : AHeap} {v : Value} {es : List BX} (h : SlB H v es) : lenV v = some (.int .i64 es.length) := h.1.lenV
theorem SlB.at {H : AHeap} {v : Value} {es : List BX} (h : SlB H v es) {i : Nat} (hi : i < es.length) : ∃ b o, iadV 3 v (.int .i64 i) = some (.pointer (some ⟨b, o, none⟩)) ∧ ∀ H', Ext H H' → loadNV H' 3 (.pointer (some ⟨b, o, none⟩)) = some (bxv es[i]) := by
 obtain ⟨b, o, h1, h2, h3⟩ := Sl.iad h.1 .i64 (i := (i : Int)) (by omega) (by omega)
 have e : (i : Int).toNat = i := by omega
 rw [e, bxs_at (List.getElem?_eq_getElem hi)] at h3
 refine ⟨b, o, h1, fun H' hx => ?_⟩
 have : loadNH H' b o 3 = loadNH H b o 3 := by simp only [loadNH, hx.blk _ h2]
 simp only [loadNV, this, h3, xms]
 rfl
structure GrowB (H : AHeap) (lo : Nat) (P : Nat → Prop) (b : Nat) (v : Value) (es : List BX) : Prop where
 vec : Vec H b v es.length 3 (bxs es)
 low : lo ≤ b
 st : (v = .slice none 0 0 ∧ es = []) ∨ b < H.next
 el : ∀ x ∈ es, ∃ c d, VecI H c x.s x.lo ∧ VecI H d x.t x.hi ∧ P c ∧ c < H.next ∧ P d ∧ d < H.next ∧ c ≠ b ∧ d ≠ b
theorem GrowB.nilL (H : AHeap) (lo b : Nat) (P : Nat → Prop) (h : lo ≤ b) : GrowB H lo P b (.slice none 0 0) [] := ⟨Vec.nil _ _ _, h, .inl ⟨rfl, rfl⟩, by simp⟩
theorem GrowB.ext {H H' : AHeap} {lo b : Nat} {P : Nat → Prop} {v : Value} {es : List BX} (h : GrowB H lo P b v es) (hx : Ext H H') : GrowB H' lo P b v es := by
 have hn := hx.next
 refine ⟨Vec.ext h.vec hx, h.low, h.st.imp id fun h => by omega, fun x hxm => ?_⟩
 obtain ⟨c, d, g1, g2, g3, g4, g5, g6, g7, g8⟩ := h.el x hxm
 exact ⟨c, d, Vec.ext g1 hx, Vec.ext g2 hx, g3, by omega, g5, by omega, g7, g8⟩
theorem GrowB.slb {H : AHeap} {lo b : Nat} {P : Nat → Prop} {v : Value} {es : List BX} (h : GrowB H lo P b v es) : SlB H v es :=
 ⟨h.vec.sl, fun x hx => by obtain ⟨c, d, g1, g2, _⟩ := h.el x hx; exact ⟨Vec.sl g1, Vec.sl g2⟩⟩
theorem GrowB.lower {H : AHeap} {lo lo' b : Nat} {P P' : Nat → Prop} {v : Value} {es : List BX} (h : GrowB H lo P b v es) (hl : lo' ≤ b) (hP : ∀ c, c < H.next → P c → P' c) : GrowB H lo' P' b v es :=
 ⟨h.vec, hl, h.st, fun x hx => by obtain ⟨c, d, g1, g2, g3, g4, g5, g6, g7, g8⟩ := h.el x hx; exact ⟨c, d, g1, g2, hP c g4 g3, g4, hP d g6 g5, g6, g7, g8⟩⟩
theorem GrowB.appendX {lim : Nat} {H0 H H2 : AHeap} {lo b : Nat} {P : Nat → Prop} {v w : Value} {es es2 : List BX} (h : GrowB H lo P b v es) (hlim : lim ≤ lo) (hx0 : Ext H0 H) (hlo : H0.next ≤ lo) (hloH : lo ≤ H.next) (hx : Ext H H2) (hw : Sl H2 w es2.length 3 (bxs es2))
   (hel : ∀ x ∈ es2, ∃ c d, VecI H2 c x.s x.lo ∧ VecI H2 d x.t x.hi ∧ P c ∧ c < H2.next ∧ P d ∧ d < H2.next ∧ ((v = .slice none 0 0 ∧ es = []) ∨ c ≠ b ∧ d ≠ b)) (hn : es.length + es2.length ≤ 1000000) :
   ∃ v' H3 b', appendH lim H2 3 56 v w = some (v', H3) ∧ GrowB H3 lo P b' v' (es ++ es2) ∧ Ext H0 H3 ∧ (∀ c, c < H2.next → ((v = .slice none 0 0 ∧ es = []) ∨ c ≠ b) → H3.blk c = H2.blk c) ∧ H2.next ≤ H3.next ∧ (b' = b ∨ H2.next ≤ b') := by
 have hnx := hx.next
 by_cases hs2 : es2 = []
 · subst hs2
   refine ⟨v, H2, b, append_none (Vec.ext h.vec hx) hw, ?_, hx0.trans hx, fun _ _ _ => rfl, Nat.le_refl _, .inl rfl⟩
   rw [List.append_nil]
   exact h.ext hx
 obtain ⟨b0, hv0, hb0, hb0r⟩ : ∃ b0, Vec H2 b0 v es.length 3 (bxs es) ∧ lo ≤ b0 ∧ (¬ (v = .slice none 0 0 ∧ es = []) ∧ b0 = b ∧ b0 < H.next ∨ (v = .slice none 0 0 ∧ es = []) ∧ H2.next < b0) := by
   by_cases hz : v = .slice none 0 0 ∧ es = []
   · obtain ⟨rfl, rfl⟩ := hz
     exact ⟨H2.next + 1, Vec.nil _ _ _, by omega, .inr ⟨⟨rfl, rfl⟩, by omega⟩⟩
   · exact ⟨b, Vec.ext h.vec hx, h.low, .inl ⟨hz, rfl, h.st.resolve_left hz⟩⟩
 obtain ⟨v', H3, b', g1, g2, g3, g4, g5⟩ := hv0.append (lim := lim) (by omega) hw (by decide) (bytes := 56) (by omega)
 have hpos : es2.length ≠ 0 := fun e => hs2 (List.length_eq_zero_iff.1 e)
 have hb3 : b' < H3.next := (g2.blk (by omega)).elim fun _ h => h.2
 have hgn := g4.next
 refine ⟨v', H3, b', g1, ⟨by rw [List.length_append, bxs_append]; exact g2, by omega, .inr hb3, fun x hxm => ?_⟩, Chg.ext (hx0.trans hx) g4 (by omega), fun c hc hcb => g4.blk c hc (by rcases hb0r with ⟨hz, rfl, _⟩ | ⟨_, e⟩; exact hcb.resolve_left hz; omega), hgn, by rcases g3 with rfl | ⟨rfl, _⟩; rcases hb0r with ⟨_, e, _⟩ | ⟨_, e⟩; exact .inl e; exact .inr (by omega); exact .inr (Nat.le_refl _)⟩
 have one : ∃ c d, VecI H2 c x.s x.lo ∧ VecI H2 d x.t x.hi ∧ P c ∧ c < H2.next ∧ P d ∧ d < H2.next ∧ c ≠ b0 ∧ d ≠ b0 := by
   rcases List.mem_append.1 hxm with hm | hm
   · obtain ⟨c, d, k1, k2, k3, k4, k5, k6, k7, k8⟩ := h.el x hm
     refine ⟨c, d, Vec.ext k1 hx, Vec.ext k2 hx, k3, by omega, k5, by omega, ?_⟩
     rcases hb0r with ⟨_, rfl, _⟩ | ⟨_, e⟩
     · exact ⟨k7, k8⟩
     · omega
   · obtain ⟨c, d, k1, k2, k3, k4, k5, k6, k7⟩ := hel x hm
     refine ⟨c, d, k1, k2, k3, k4, k5, k6, ?_⟩
     rcases hb0r with ⟨hz, rfl, hlt⟩ | ⟨_, e⟩
     · exact k7.resolve_left hz
     · omega
 obtain ⟨c, d, k1, k2, k3, k4, k5, k6, k7, k8⟩ := one
 refine ⟨c, d, Vec.chg k1 g4 k7, Vec.chg k2 g4 k8, k3, by omega, k5, by omega, ?_⟩
 rcases g3 with rfl | ⟨rfl, _⟩
 · exact ⟨k7, k8⟩
 · omega
theorem GrowB.appendL {lim : Nat} {H0 H H2 : AHeap} {lo b : Nat} {P : Nat → Prop} {v w : Value} {es es2 : List BX} (h : GrowB H lo P b v es) (hlim : lim ≤ lo) (hx0 : Ext H0 H) (hlo : H0.next ≤ lo) (hloH : lo ≤ H.next) (hx : Ext H H2) (hw : Sl H2 w es2.length 3 (bxs es2))
   (hel : ∀ x ∈ es2, ∃ c d, VecI H2 c x.s x.lo ∧ VecI H2 d x.t x.hi ∧ P c ∧ c < H2.next ∧ P d ∧ d < H2.next ∧ ((v = .slice none 0 0 ∧ es = []) ∨ c ≠ b ∧ d ≠ b)) (hn : es.length + es2.length ≤ 1000000) :
   ∃ v' H3 b', appendH lim H2 3 56 v w = some (v', H3) ∧ GrowB H3 lo P b' v' (es ++ es2) ∧ Ext H0 H3 := by
 obtain ⟨v', H3, b', h1, h2, h3, _⟩ := h.appendX hlim hx0 hlo hloH hx hw hel hn
 exact ⟨v', H3, b', h1, h2, h3⟩
theorem GrowB.push {lim : Nat} {H0 H H2 : AHeap} {lo b c d : Nat} {P : Nat → Prop} {v : Value} {es : List BX} {x : BX} (h : GrowB H lo P b v es) (hlim : lim ≤ lo) (hx0 : Ext H0 H) (hlo : H0.next ≤ lo) (hloH : lo ≤ H.next) (hx : Ext H H2)
   (hc : VecI H2 c x.s x.lo) (hd : VecI H2 d x.t x.hi) (c1 : P c) (c2 : c < H2.next) (d1 : P d) (d2 : d < H2.next) (hcb : (v = .slice none 0 0 ∧ es = []) ∨ c ≠ b ∧ d ≠ b) (hn : es.length ≤ 100000) :
   ∃ v' H3 b', appendH lim (H2.alloc (bxc x)) 3 56 v (.slice (some ⟨H2.next, 0, some 0⟩) 1 1) = some (v', H3) ∧ GrowB H3 lo P b' v' (es ++ [x]) ∧ Ext H0 H3 := by
 have hxa := Ext.alloc H2 (bxc x)
 have hna : H2.next < (H2.alloc (bxc x)).next := Nat.lt_succ_self _
 refine h.appendL hlim hx0 hlo hloH (hx.trans hxa) (Vec.sl (Vec.lit (by simp [bxs, bxc]))) (fun y hy => ?_) (by simp; omega)
 rw [List.mem_singleton] at hy
 subst hy
 exact ⟨c, d, Vec.ext hc hxa, Vec.ext hd hxa, c1, by omega, d1, by omega, hcb⟩
theorem bxs_one (x : BX) : bxs [x] = bxc x := by simp [bxs]
theorem bslice_box (H : AHeap) (x : BX) (hs : cellsV x.s = some [x.s]) (ht : cellsV x.t = some [x.t]) : bsliceH H 1 [.int .i64 0, .slice none 0 0, .slice none 0 0] [(0, 3, bxv x)] = some (.slice (some ⟨H.next, 0, some 0⟩) 1 1, H.alloc (bxc x)) := by
 simp [bsliceH, fillV, bxv, cellsV, bxc]
theorem bslice_two (H : AHeap) (x y : BX) : bsliceH H 2 [.int .i64 0, .slice none 0 0, .slice none 0 0, .int .i64 0, .slice none 0 0, .slice none 0 0] [(0, 3, bxv x), (3, 3, bxv y)] = some (.slice (some ⟨H.next, 0, some 0⟩) 2 2, H.alloc (bxs [x, y])) := by
 simp [bsliceH, fillV, bxv, cellsV, bxc, bxs]
theorem load2 {b : Nat} {H : AHeap} {x y : Value} (h : H.blk b = some [x, y]) : loadNV H 2 (.pointer (some ⟨b, 0, none⟩)) = some (.agg #[x, y]) := loadNV_blk h
theorem store2 {lim b : Nat} {H : AHeap} {p q x y : Value} (hl : lim ≤ b) (h : H.blk b = some [p, q]) : storeH lim H 2 (.pointer (some ⟨b, 0, none⟩)) (.agg #[x, y]) = some (undef, H.put b [x, y]) :=
 store_all (xs := [x, y]) hl h rfl
theorem fill2 (a b : Value) (k l : Int) : fillV [a, b] [(0, 1, .int .i64 k), (1, 1, .int .i64 l)] = some [vi k, vi l] := by simp [fillV, cellsV]
def dyV (n : Int) (k : Nat) : Value := .agg #[.int .i64 n, .int .i64 (k : Int)]
theorem pow_nat (k : Nat) : ((2 ^ k : Nat) : Int) = (2 : Int) ^ k := by push_cast; rfl
theorem pow_pos2 (k : Nat) : (1 : Int) ≤ 2 ^ k := by rw [← pow_nat]; have := Nat.one_le_two_pow (n := k); omega
theorem pow_le2 {k m : Nat} (h : k ≤ m) : (2 : Int) ^ k ≤ 2 ^ m := by
 rw [← pow_nat, ← pow_nat]
 have := Nat.pow_le_pow_right (n := 2) (by decide) h
 omega
theorem dyDown_ok (lim : Nat) (a b : Int) (H : AHeap) (hb : 1 ≤ b) (ha : a.natAbs ≤ 1000000000000000) : ACalls Tryz.prog lim n_spec_dyDown [.int .i64 a, .int .i64 b] H fun v H' => (∃ q, v = .int .i64 q ∧ q * b ≤ a ∧ a < (q + 1) * b ∧ q.natAbs ≤ 1000000000000001) ∧ H' = H := by
 refine is_spec_dyDown.go rfl ?_
 unfold c_spec_dyDown
 have hb0 : ¬ b = 0 := by omega
 have t1 := Int.mul_tdiv_add_tmod a b
 have t2 := Int.tmod_lt_of_pos a (show 0 < b by omega)
 have t3 := Int.lt_tmod_of_pos a (show 0 < b by omega)
 have t4 : (a.tdiv b).natAbs ≤ a.natAbs := by
   rw [Int.natAbs_tdiv]
   exact Nat.div_le_self _ _
 have w1 : IntKind.i64.wrap (a.tdiv b) = a.tdiv b := wr_id (by omega) (by omega)
 have w2 : IntKind.i64.wrap (a.tdiv b - 1) = a.tdiv b - 1 := wr_id (by omega) (by omega)
 have e1 : b * a.tdiv b = a.tdiv b * b := Int.mul_comm _ _
 obtain ⟨q, hq⟩ : ∃ q, a.tdiv b = q := ⟨_, rfl⟩
 obtain ⟨r, hr⟩ : ∃ r, a.tmod b = r := ⟨_, rfl⟩
 rw [hq] at t1 t4 w1 w2 e1
 rw [hr] at t1 t2 t3
 have e2 : (q + 1) * b = q * b + b := by rw [Int.add_mul, Int.one_mul]
 have e3 : (q - 1) * b = q * b - b := by rw [Int.sub_mul, Int.one_mul]
 refine s_reg ?_
 simp only [o_pure, o_nil, POp.ev, Opd.ev, env0, gu, setD, List.set, xsj, xel]
 refine s_reg ?_
 simp only [o_pure, o_nil, POp.ev, Opd.ev, gv, setD, List.set, xsj, xel, binV, ne_eq, xnt, if_false, hb0, hq, w1]
 refine s_cut (fun e' H' => ∃ q', q' * b ≤ a ∧ a < (q' + 1) * b ∧ q'.natAbs ≤ 1000000000000001 ∧ H' = H ∧ e' = [.int .i64 a, .int .i64 b, .int .i64 0, .int .i64 q']) ?_ ?_
 · refine s_test1 ?_
   simp only [o_pure, o_nil, POp.ev, Opd.ev, gv, setD, xsj, xel, binV, ne_eq, xnt, if_false, hb0, hr]
   refine Test.split (fun h => ?_) (fun h => ?_)
   · have h' := of_decide_eq_true h
     refine s_reg1 ?_
     simp only [o_pure, o_nil, POp.ev, Opd.ev, gv, setD, List.set, xsj, xel, binV, ne_eq, xnt, if_false, w2]
     simp +decide only [pqn]
     refine ⟨q - 1, by omega, ?_, by omega, trivial, rfl⟩
     rw [Int.sub_add_cancel]
     omega
   · have h' := of_decide_eq_false h
     refine s_skip1 ?_
     simp +decide only [pqn]
     exact ⟨q, by omega, by omega, by omega, trivial, rfl⟩
 · rintro e' H' ⟨q', g1, g2, g3, rfl, rfl⟩
   refine s_reg ?_
   simp only [o_pure, o_nil, POp.ev, Opd.ev, gv, setD, List.set, xsj, xel]
   refine s_ret1 ?_
   simp +decide only [pfr, resV, resOne, gv, xsj, xel]
   exact ⟨⟨q', rfl, g1, g2, g3⟩, trivial⟩
theorem dyFloor_ok (lim : Nat) (n : Int) (k : Nat) (H : AHeap) (hk : k ≤ 24) (hn : n.natAbs ≤ 1099511627776) : ACalls Tryz.prog lim n_spec_dyFloor [dyV n k] H fun v H' => (∃ p, v = .int .i64 p ∧ p * 2 ^ k ≤ n ∧ n < (p + 1) * 2 ^ k ∧ p.natAbs ≤ 1000000000000001) ∧ Ext H H' := by
 refine is_spec_dyFloor.go rfl ?_
 unfold c_spec_dyFloor dyV
 refine s_reg ?_
 simp only [o_pure, o_eff, o_nil, POp.ev, Opd.ev, EOp.ev, env0, gu, gv, setD, List.set, xms, xsj, xel, boxH, cellsV]
 have hx := Ext.alloc H [.int .i64 n, .int .i64 (k : Int)]
 have hb : (H.alloc [.int .i64 n, .int .i64 (k : Int)]).blk H.next = some [.int .i64 n, .int .i64 (k : Int)] := alloc_new _ _
 generalize H.alloc [.int .i64 n, .int .i64 (k : Int)] = H1 at hx hb ⊢
 refine s_reg ?_
 simp only [o_pure, o_callN, POp.ev, Opd.ev, gv, setD, List.map, xsj, xel, load1V, fadV, xgz, xgs, Nat.zero_add, cell_blk hb]
 refine (Ints.power_ok _ k H1 (by omega)).use ?_
 rintro _ HH ⟨rfl, hh⟩ _
 subst HH
 simp only [o_cont, o_callF, Opd.ev, gv, setD, List.map]
 refine (dyDown_ok _ n (2 ^ k) H1 (pow_pos2 k) (by omega)).mono ?_
 rintro _ HH ⟨⟨p, rfl, g1, g2, g3⟩, hh⟩
 subst HH
 simp only [o_cont, o_pure, o_nil, POp.ev, Opd.ev, gv, setD, List.set, xsj, xel]
 refine s_ret1 ?_
 simp +decide only [pfr, resV, resOne, gv, xsj, xel]
 exact ⟨⟨p, rfl, g1, g2, g3⟩, hx⟩
theorem dyAt_ok (lim : Nat) (n : Int) (k : Nat) (H : AHeap) (hl : lim ≤ H.next) (hk : k ≤ 24) (h0 : 0 ≤ n) (hn : n ≤ 2 ^ k) : ACalls Tryz.prog lim n_spec_dyAt [dyV n k, .int .i64 24] H fun v H' => v = .tuple #[.int .i64 (n * 2 ^ (24 - k)), .bool true] ∧ Ext H H' := by
 refine is_spec_dyAt.go rfl ?_
 unfold c_spec_dyAt dyV
 refine s_reg ?_
 simp only [o_pure, o_eff, o_nil, POp.ev, Opd.ev, EOp.ev, env0, gu, gv, setD, List.set, xms, xsj, xel, boxH, cellsV]
 have hx := Ext.alloc H [.int .i64 n, .int .i64 (k : Int)]
 have hb : (H.alloc [.int .i64 n, .int .i64 (k : Int)]).blk H.next = some [.int .i64 n, .int .i64 (k : Int)] := alloc_new _ _
 have hbl : H.next < (H.alloc [.int .i64 n, .int .i64 (k : Int)]).next := Nat.lt_succ_self _
 generalize H.alloc [.int .i64 n, .int .i64 (k : Int)] = H1 at hx hb hbl ⊢
 generalize hq : H.next = q at *
 refine s_test ?_
 simp only [o_pure, o_nil, POp.ev, Opd.ev, gv, setD, xsj, xel, binV, load1V, fadV, ne_eq, xnt, if_false, xgz, Nat.zero_add, cell_blk hb]
 refine Test.split (fun h => ?_) (fun h => ?_)
 · have h' : n = 0 := by simpa using h
   subst h'
   refine s_reg ?_
   simp only [o_pure, o_nil, POp.ev, Opd.ev, setD, List.set, xsj, xel]
   refine s_ret1 ?_
   simp +decide only [pqr, pfr, resV, resOne, resL, gv, xsj, xel, Option.bind_some, xms]
   exact ⟨by simp, hx⟩
 refine s_skip1 ?_
 simp +decide only [pqn]
 refine s_assoc (s_reg ?_)
 simp only [o_pure, o_nil, POp.ev, Opd.ev, gv, setD, List.set, xsj, xel, load1V, fadV, xgz, xgs, Nat.zero_add, cell_blk hb]
 refine s_block ?_
 have hp24 := pow_le2 hk
 refine s_loop1 (fun j e' H' => ∃ m : Nat, k + m + j = 24 ∧ H'.blk q = some [.int .i64 (n * 2 ^ m), .int .i64 (k : Int)] ∧ q < H'.next ∧ Ext H H' ∧ e' = [.agg #[.int .i64 n, .int .i64 (k : Int)], .int .i64 24, .pointer (some ⟨q, 0, none⟩), .int .i64 0, .bool false, .int .i64 ((k + m : Nat) : Int)]) (24 - k) ⟨0, by omega, by rw [Int.pow_zero, Int.mul_one]; exact hb, hbl, hx, rfl⟩ ?_
 rintro j e' H2 ⟨m, hmj, hb2, hbl2, hx2, rfl⟩
 refine s_test ?_
 simp only [o_pure, o_nil, POp.ev, Opd.ev, gv, setD, xsj, xel, binV, ne_eq, xnt, if_false]
 refine Test.split (fun hlt => ?_) (fun hlt => ?_)
 · have hlt' : k + m < 24 := by have := of_decide_eq_true hlt; omega
   have b1 : n * 2 ^ m ≤ 16777216 := by
     have h1 : n * 2 ^ m ≤ 2 ^ k * 2 ^ m := Int.mul_le_mul_of_nonneg_right hn (by have := pow_pos2 m; omega)
     rw [← Int.pow_add] at h1
     have h2 := pow_le2 (show k + m ≤ 24 by omega)
     have h3 : (2 : Int) ^ 24 = 16777216 := by decide
     omega
   have b0 : 0 ≤ n * 2 ^ m := Int.mul_nonneg h0 (by have := pow_pos2 m; omega)
   have p60 : (2 : Int) ^ 60 = 1152921504606846976 := by decide
   have w60 : IntKind.i64.wrap (0 - (2 : Int) ^ 60) = -1152921504606846976 := by rw [p60]; decide
   have hin : (decide (-1152921504606846976 ≤ n * 2 ^ m) && decide (n * 2 ^ m ≤ 2 ^ 60)) = true := by
     rw [p60]
     simp
     omega
   have w2 : IntKind.i64.wrap (n * 2 ^ m * 2) = n * 2 ^ (m + 1) := by
     rw [Int.pow_succ, ← Int.mul_assoc]
     exact wr_id (by omega) (by omega)
   refine s_skip1 ?_
   simp +decide only [pqn]
   refine s_block1 ?_
   refine s_test ?_
   simp only [o_pure, o_callN, POp.ev, Opd.ev, gv, setD, List.map, xsj, xel, load1V, fadV, xgz, Nat.zero_add, cell_blk hb2]
   refine (Ints.power_ok _ 60 H2 (by omega)).use ?_
   rintro _ HH ⟨rfl, hh⟩ _
   subst HH
   simp only [o_cont, o_pure, o_callN, POp.ev, Opd.ev, gv, setD, List.map, xsj, xel, unV, w60]
   refine (Ints.power_ok _ 60 H2 (by omega)).use ?_
   rintro _ HH ⟨rfl, hh⟩ _
   subst HH
   simp only [o_cont, o_callF, Opd.ev, gv, setD, List.map]
   refine (Ints.l1In_ok _ _ _ _ _).eq ?_
   rw [hin]
   simp only [o_cont, o_pure, o_nil, POp.ev, Opd.ev, gv, setD, xsj, xel, unV, Bool.not_true]
   refine Test.false_ (s_skip1 ?_)
   simp +decide only [pqn]
   have hst : storeH lim H2 1 (.pointer (some ⟨q, 0, none⟩)) (.int .i64 (n * 2 ^ (m + 1))) = some (undef, H2.put q [.int .i64 (n * 2 ^ (m + 1)), .int .i64 (k : Int)]) := store_cell rfl (by omega) hb2 (by simp)
   refine s_reg1 ?_
   simp only [o_pure, o_eff, o_nil, POp.ev, Opd.ev, EOp.ev, gv, setD, xsj, xel, binV, load1V, fadV, ne_eq, xnt, if_false, xgz, Nat.zero_add, cell_blk hb2, w2, hst]
   simp +decide only [pqn, pbn]
   refine s_reg1 ?_
   simp only [o_pure, o_nil, POp.ev, Opd.ev, gv, setD, List.set, xsj, xel, binV, ne_eq, xnt, if_false, add1 (i := k + m) (by omega)]
   simp +decide only [pqn]
   exact Round.mk (j - 1) (by omega) ⟨m + 1, by omega, put_same _ _ _, hbl2, Chg.ext hx2 (Chg.put _ _ _) (by omega), rfl⟩
 · have hge : m = 24 - k := by have := of_decide_eq_false hlt; omega
   subst hge
   refine s_exit1 ?_
   simp +decide only [pqn, pqe, pbe, reduceIte]
   refine s_reg ?_
   simp only [o_pure, o_nil, POp.ev, Opd.ev, gv, setD, List.set, xsj, xel, load1V, fadV, xgz, Nat.zero_add, cell_blk hb2]
   refine s_ret1 ?_
   simp +decide only [pfr, resV, resOne, resL, gv, xsj, xel, Option.bind_some, xms]
   exact ⟨trivial, hx2⟩
theorem sg3p {n : Int} (h : 0 < n) : sgn3 n = 1 := by unfold sgn3; rw [if_pos h]
theorem sg3n {n : Int} (h : n < 0) : sgn3 n = -1 := by unfold sgn3; rw [if_neg (by omega), if_pos h]
theorem sgn3_mul {c : Int} (hc : 0 < c) (n : Int) : sgn3 (c * n) = sgn3 n := by
 rcases Int.lt_trichotomy n 0 with h | h | h
 · rw [sg3n h, sg3n (Int.mul_neg_of_pos_of_neg hc h)]
 · subst h; simp
 · rw [sg3p h, sg3p (Int.mul_pos hc h)]
theorem floor_lt {n1 n2 p q : Int} {k1 k2 : Nat} (h1 : n1 < (p + 1) * 2 ^ k1) (h2 : q * 2 ^ k2 ≤ n2) (h : p < q) : n1 * 2 ^ k2 - n2 * 2 ^ k1 < 0 := by
 have a1 := pow_pos2 k1
 have a2 := pow_pos2 k2
 have g1 : n1 * 2 ^ k2 < (p + 1) * 2 ^ k1 * 2 ^ k2 := Int.mul_lt_mul_of_pos_right h1 (by omega)
 have g2 : q * 2 ^ k2 * 2 ^ k1 ≤ n2 * 2 ^ k1 := Int.mul_le_mul_of_nonneg_right h2 (by omega)
 have g3 : (p + 1) * (2 ^ k1 * 2 ^ k2) ≤ q * (2 ^ k1 * 2 ^ k2) := Int.mul_le_mul_of_nonneg_right (by omega) (Int.mul_nonneg (by omega) (by omega))
 rw [Int.mul_assoc] at g1
 rw [Int.mul_assoc, Int.mul_comm (2 ^ k2) (2 ^ k1)] at g2
 omega
theorem dyCmp_ok (lim : Nat) (n1 n2 : Int) (k1 k2 : Nat) (H : AHeap) (hl : lim ≤ H.next) (hk1 : k1 ≤ 24) (hk2 : k2 ≤ 24) (hn1 : n1.natAbs ≤ 1099511627776) (hn2 : n2.natAbs ≤ 1099511627776) :
   ACalls Tryz.prog lim n_spec_dyCmp [dyV n1 k1, dyV n2 k2] H fun v H' => v = .int .i64 (sgn3 (n1 * 2 ^ k2 - n2 * 2 ^ k1)) ∧ Ext H H' := by
 refine is_spec_dyCmp.go rfl ?_
 unfold c_spec_dyCmp dyV
 refine s_reg ?_
 simp only [o_pure, o_eff, o_nil, POp.ev, Opd.ev, EOp.ev, env0, gu, gv, setD, List.set, xms, xsj, xel, boxH, cellsV]
 have hx0 : Ext H ((H.alloc [.int .i64 n1, .int .i64 (k1 : Int)]).alloc [.int .i64 n2, .int .i64 (k2 : Int)]) := (Ext.alloc _ _).trans (Ext.alloc _ _)
 have hb1 : ((H.alloc [.int .i64 n1, .int .i64 (k1 : Int)]).alloc [.int .i64 n2, .int .i64 (k2 : Int)]).blk H.next = some [.int .i64 n1, .int .i64 (k1 : Int)] := by
   rw [alloc_old _ _ (Nat.lt_succ_self _)]
   exact alloc_new _ _
 have hb2 : ((H.alloc [.int .i64 n1, .int .i64 (k1 : Int)]).alloc [.int .i64 n2, .int .i64 (k2 : Int)]).blk (H.alloc [.int .i64 n1, .int .i64 (k1 : Int)]).next = some [.int .i64 n2, .int .i64 (k2 : Int)] := alloc_new _ _
 have hlt : H.next < ((H.alloc [.int .i64 n1, .int .i64 (k1 : Int)]).alloc [.int .i64 n2, .int .i64 (k2 : Int)]).next := by simp only [alloc_next]; omega
 have hlt2 : (H.alloc [.int .i64 n1, .int .i64 (k1 : Int)]).next < ((H.alloc [.int .i64 n1, .int .i64 (k1 : Int)]).alloc [.int .i64 n2, .int .i64 (k2 : Int)]).next := Nat.lt_succ_self _
 generalize (H.alloc [.int .i64 n1, .int .i64 (k1 : Int)]).alloc [.int .i64 n2, .int .i64 (k2 : Int)] = H1 at hx0 hb1 hb2 hlt hlt2 ⊢
 generalize (H.alloc [.int .i64 n1, .int .i64 (k1 : Int)]).next = r at hb2 hlt2 ⊢
 have hnx := hx0.next
 refine s_reg ?_
 simp only [o_pure, o_callN, POp.ev, Opd.ev, gv, setD, List.map, xsj, xel, load2 hb1, load2 hb2]
 refine (dyFloor_ok _ n1 k1 H1 hk1 hn1).use ?_
 rintro _ H2 ⟨⟨p, rfl, p1, p2, p3⟩, hx2⟩ _
 simp only [o_cont, o_callF, Opd.ev, gv, setD, List.map]
 refine (dyFloor_ok _ n2 k2 H2 hk2 hn2).mono ?_
 rintro _ H3 ⟨⟨q, rfl, q1, q2, q3⟩, hx3⟩
 have hx13 := hx2.trans hx3
 have hn13 := hx13.next
 simp only [o_cont, o_pure, o_nil, POp.ev, Opd.ev, gv, setD, List.set, xsj, xel]
 refine s_test ?_
 simp only [o_pure, o_nil, POp.ev, Opd.ev, gv, setD, xsj, xel, binV, ne_eq, xnt, if_false]
 have wpq : IntKind.i64.wrap (p - q) = p - q := wr_id (by omega) (by omega)
 refine Test.split (fun h => ?_) (fun h => ?_)
 · have h' : p ≠ q := by simpa using h
   refine s_reg ?_
   simp only [o_pure, o_callF, POp.ev, Opd.ev, gv, setD, List.map, xsj, xel, binV, ne_eq, xnt, if_false, wpq]
   refine (l1Sign_ok _ _ _).eq ?_
   simp only [o_cont, o_pure, o_nil, POp.ev, Opd.ev, gv, setD, List.set, xsj, xel]
   refine s_ret1 ?_
   simp +decide only [pqr, pfr, resV, resOne, gv, xsj, xel]
   refine ⟨?_, hx0.trans hx13⟩
   rcases Int.lt_or_lt_of_ne h' with hlt | hlt
   · rw [sg3n (show p - q < 0 by omega), sg3n (floor_lt p2 q1 hlt)]
   · have := floor_lt q2 p1 hlt
     rw [sg3p (show 0 < p - q by omega), sg3p (by omega)]
 have h' : p = q := by simpa using h
 subst h'
 have one : ∀ (n : Int) (k : Nat), k ≤ 24 → n.natAbs ≤ 1099511627776 → p * 2 ^ k ≤ n → n < (p + 1) * 2 ^ k → IntKind.i64.wrap (p * 2 ^ k) = p * 2 ^ k ∧ IntKind.i64.wrap (n - p * 2 ^ k) = n - p * 2 ^ k ∧ 0 ≤ n - p * 2 ^ k ∧ n - p * 2 ^ k ≤ 2 ^ k := by
   intro n k hk hn g1 g2
   have a1 := pow_le2 hk
   have a2 : (2 : Int) ^ 24 = 16777216 := by decide
   have a3 := pow_pos2 k
   rw [Int.add_mul, Int.one_mul] at g2
   exact ⟨wr_id (by omega) (by omega), wr_id (by omega) (by omega), by omega, by omega⟩
 obtain ⟨r1, r2, r3, r4⟩ := one n1 k1 hk1 hn1 p1 p2
 obtain ⟨s1, s2, s3, s4⟩ := one n2 k2 hk2 hn2 q1 q2
 have hb1' : H3.blk H.next = some [.int .i64 n1, .int .i64 (k1 : Int)] := by rw [hx13.blk _ hlt]; exact hb1
 have hb2' : H3.blk r = some [.int .i64 n2, .int .i64 (k2 : Int)] := by rw [hx13.blk _ hlt2]; exact hb2
 refine s_skip1 ?_
 simp +decide only [pqn]
 refine s_reg ?_
 simp only [o_pure, o_callN, POp.ev, Opd.ev, gv, setD, List.map, xsj, xel, load1V, fadV, xgz, xgs, Nat.zero_add, cell_blk hb1']
 refine (Ints.power_ok _ k1 H3 (by omega)).use ?_
 rintro _ HH ⟨rfl, hh⟩ _
 subst HH
 simp only [o_cont, o_pure, o_callF, POp.ev, Opd.ev, gv, setD, List.map, xms, xsj, xel, binV, ne_eq, xnt, if_false, r1, r2, fill2]
 refine (dyAt_ok lim (n1 - p * 2 ^ k1) k1 H3 (by omega) hk1 r3 r4).mono ?_
 rintro _ H4 ⟨rfl, hx4⟩
 have hn4 := hx4.next
 have hb2'' : H4.blk r = some [.int .i64 n2, .int .i64 (k2 : Int)] := by rw [hx4.blk _ (by omega)]; exact hb2'
 simp only [o_cont, o_pure, o_nil, POp.ev, Opd.ev, gv, setD, List.set, xsj, xel, extV, List.getElem?_toArray, xgz, xgs]
 refine s_reg ?_
 simp only [o_pure, o_callN, POp.ev, Opd.ev, gv, setD, List.map, xsj, xel, load1V, fadV, xgz, xgs, Nat.zero_add, cell_blk hb2'']
 refine (Ints.power_ok _ k2 H4 (by omega)).use ?_
 rintro _ HH ⟨rfl, hh⟩ _
 subst HH
 simp only [o_cont, o_pure, o_callF, POp.ev, Opd.ev, gv, setD, List.map, xms, xsj, xel, binV, ne_eq, xnt, if_false, s1, s2, fill2]
 refine (dyAt_ok lim (n2 - p * 2 ^ k2) k2 H4 (by omega) hk2 s3 s4).mono ?_
 rintro _ H5 ⟨rfl, hx5⟩
 simp only [o_cont, o_pure, o_nil, POp.ev, Opd.ev, gv, setD, List.set, xsj, xel, extV, List.getElem?_toArray, xgz, xgs]
 have big : ∀ (n : Int) (k : Nat), k ≤ 24 → 0 ≤ n → n ≤ 2 ^ k → 0 ≤ n * 2 ^ (24 - k) ∧ n * 2 ^ (24 - k) ≤ 16777216 := by
   intro n k hk g0 g1
   have a1 := pow_pos2 (24 - k)
   have a2 : n * 2 ^ (24 - k) ≤ 2 ^ k * 2 ^ (24 - k) := Int.mul_le_mul_of_nonneg_right g1 (by omega)
   rw [← Int.pow_add, show k + (24 - k) = 24 by omega] at a2
   have a3 : (2 : Int) ^ 24 = 16777216 := by decide
   exact ⟨Int.mul_nonneg g0 (by omega), by omega⟩
 obtain ⟨b1, b2⟩ := big _ k1 hk1 r3 r4
 obtain ⟨c1, c2⟩ := big _ k2 hk2 s3 s4
 have wxy : IntKind.i64.wrap ((n1 - p * 2 ^ k1) * 2 ^ (24 - k1) - (n2 - p * 2 ^ k2) * 2 ^ (24 - k2)) = (n1 - p * 2 ^ k1) * 2 ^ (24 - k1) - (n2 - p * 2 ^ k2) * 2 ^ (24 - k2) := wr_id (by omega) (by omega)
 refine s_reg ?_
 simp only [o_pure, o_callF, POp.ev, Opd.ev, gv, setD, List.map, xsj, xel, binV, ne_eq, xnt, if_false, wxy]
 refine (l1Sign_ok _ _ _).eq ?_
 simp only [o_cont, o_pure, o_nil, POp.ev, Opd.ev, gv, setD, List.set, xsj, xel]
 refine s_ret1 ?_
 simp +decide only [pfr, resV, resOne, gv, xsj, xel]
 refine ⟨?_, ((hx0.trans hx13).trans hx4).trans hx5⟩
 have hc : (0 : Int) < 2 ^ k1 * 2 ^ k2 := Int.mul_pos (by have := pow_pos2 k1; omega) (by have := pow_pos2 k2; omega)
 have hd : (0 : Int) < 2 ^ 24 := by decide
 have e1 : (2 : Int) ^ k1 * 2 ^ (24 - k1) = 2 ^ 24 := by rw [← Int.pow_add, show k1 + (24 - k1) = 24 by omega]
 have e2 : (2 : Int) ^ k2 * 2 ^ (24 - k2) = 2 ^ 24 := by rw [← Int.pow_add, show k2 + (24 - k2) = 24 by omega]
 rw [← sgn3_mul hc ((n1 - p * 2 ^ k1) * 2 ^ (24 - k1) - (n2 - p * 2 ^ k2) * 2 ^ (24 - k2)), ← sgn3_mul hd (n1 * 2 ^ k2 - n2 * 2 ^ k1)]
 have key : (2 : Int) ^ k1 * 2 ^ k2 * ((n1 - p * 2 ^ k1) * 2 ^ (24 - k1) - (n2 - p * 2 ^ k2) * 2 ^ (24 - k2)) = 2 ^ 24 * (n1 * 2 ^ k2 - n2 * 2 ^ k1) := by
   have f1 : (2 : Int) ^ k1 * 2 ^ k2 * ((n1 - p * 2 ^ k1) * 2 ^ (24 - k1)) = 2 ^ 24 * ((n1 - p * 2 ^ k1) * 2 ^ k2) := by
     rw [← e1]
     simp only [Int.mul_assoc, Int.mul_comm, Int.mul_left_comm]
   have f2 : (2 : Int) ^ k1 * 2 ^ k2 * ((n2 - p * 2 ^ k2) * 2 ^ (24 - k2)) = 2 ^ 24 * ((n2 - p * 2 ^ k2) * 2 ^ k1) := by
     rw [← e2]
     simp only [Int.mul_assoc, Int.mul_comm, Int.mul_left_comm]
   rw [Int.mul_sub, f1, f2, ← Int.mul_sub]
   congr 1
   rw [Int.sub_mul, Int.sub_mul, Int.mul_assoc, Int.mul_assoc, Int.mul_comm (2 ^ k1) (2 ^ k2)]
   omega
 rw [key]
theorem dyGood_ok (lim : Nat) (n : Int) (k : Nat) (H : AHeap) (hk : k ≤ 24) (hn : n.natAbs ≤ 1099511627776) (ho : k = 0 ∨ n.tmod 2 ≠ 0) :
   ACalls Tryz.prog lim n_spec_dyGood [dyV n k] H fun v H' => v = .bool true ∧ Ext H H' := by
 refine is_spec_dyGood.go rfl ?_
 unfold c_spec_dyGood dyV
 refine s_reg ?_
 simp only [o_pure, o_eff, o_nil, POp.ev, Opd.ev, EOp.ev, env0, gu, gv, setD, List.set, xms, xsj, xel, boxH, cellsV]
 have hx := Ext.alloc H [.int .i64 n, .int .i64 (k : Int)]
 have hb : (H.alloc [.int .i64 n, .int .i64 (k : Int)]).blk H.next = some [.int .i64 n, .int .i64 (k : Int)] := alloc_new _ _
 generalize H.alloc [.int .i64 n, .int .i64 (k : Int)] = H1 at hx hb ⊢
 have i1 : (decide ((0 : Int) ≤ (k : Int)) && decide ((k : Int) ≤ 24)) = true := by simp; omega
 have i2 : (decide (-1099511627776 ≤ n) && decide (n ≤ 1099511627776)) = true := by simp; omega
 have e2 : ¬ ((2 : Int) = 0) := by decide
 refine s_reg ?_
 simp only [o_pure, o_callF, POp.ev, Opd.ev, gv, setD, List.map, xsj, xel, load1V, fadV, xgz, xgs, Nat.zero_add, cell_blk hb]
 refine (Ints.l1In_ok _ _ _ _ _).eq ?_
 rw [i1]
 simp only [o_cont, o_pure, o_callF, o_guard, gk_tt, POp.ev, Opd.ev, gv, setD, List.map, xsj, xel, load1V, fadV, xgz, Nat.zero_add, cell_blk hb]
 refine (Ints.l1In_ok _ _ _ _ _).eq ?_
 rw [i2]
 by_cases h0 : k = 0
 · have d0 : ((k : Int) == 0) = true := by simp; omega
   simp only [o_cont, o_pure, o_guard, gk_tt, gk_tf, o_nil, POp.ev, Opd.ev, gv, setD, List.set, xsj, xel, pickV, binV, load1V, fadV, ne_eq, xnt, if_false, xgz, xgs, Nat.zero_add, cell_blk hb, d0]
   refine s_ret1 ?_
   simp +decide only [pfr, resV, resOne, gv, xsj, xel]
   exact ⟨trivial, hx⟩
 · have d0 : ((k : Int) == 0) = false := by simp; omega
   have d1 : (n.tmod 2 != 0) = true := by simpa using ho.resolve_left h0
   simp only [o_cont, o_pure, o_guard, gk_tt, gk_ff, o_nil, POp.ev, Opd.ev, gv, setD, List.set, xsj, xel, pickV, binV, load1V, fadV, ne_eq, xnt, if_false, xgz, xgs, Nat.zero_add, cell_blk hb, d0, e2, d1]
   refine s_ret1 ?_
   simp +decide only [pfr, resV, resOne, gv, xsj, xel]
   exact ⟨trivial, hx⟩
def Low (n : Int) (k : Nat) (N : Int) (K : Nat) : Prop := n * 2 ^ K = N * 2 ^ k ∧ K ≤ k ∧ N.natAbs ≤ n.natAbs
theorem dyMake_ok (lim : Nat) (n : Int) (k : Nat) (H : AHeap) (hl : lim ≤ H.next) (hk : k ≤ 24) (hn : n.natAbs ≤ 1099511627776) :
   ACalls Tryz.prog lim n_spec_dyMake [.int .i64 n, .int .i64 k] H fun v H' => (∃ N K, v = .tuple #[dyV N K, .bool true] ∧ Low n k N K) ∧ Ext H H' := by
 refine is_spec_dyMake.go rfl ?_
 unfold c_spec_dyMake
 refine s_reg ?_
 simp only [o_pure, o_eff, o_nil, POp.ev, Opd.ev, EOp.ev, env0, gu, setD, List.set, xsj, xel]
 have hx := Ext.alloc H [.int .i64 0, .int .i64 0]
 have hr : (H.alloc [.int .i64 0, .int .i64 0]).blk H.next = some [.int .i64 0, .int .i64 0] := alloc_new _ _
 have hrl : H.next < (H.alloc [.int .i64 0, .int .i64 0]).next := Nat.lt_succ_self _
 generalize H.alloc [.int .i64 0, .int .i64 0] = H1 at hx hr hrl ⊢
 generalize hre : H.next = r at *
 have e2 : ¬ ((2 : Int) = 0) := by decide
 refine s_cut (fun e' H' => ∃ K : Nat, Low n k n K ∧ (n = 0 → K = 0) ∧ H' = H1 ∧ e' = [.int .i64 n, .int .i64 (K : Int), .pointer (some ⟨r, 0, none⟩), .bool false, undef]) ?_ ?_
 · refine s_test1_same (decide (n = 0) && decide (0 < (k : Int))) ?_ (fun hg => ?_) (fun hg => ?_)
   · by_cases h0 : n = 0
     · have d0 : (n == 0) = true := by simpa using h0
       simp only [o_pure, o_guard, gk_tt, o_nil, POp.ev, Opd.ev, gv, setD, xsj, xel, pickV, binV, ne_eq, xnt, if_false, d0]
       simp [h0]
     · have d0 : (n == 0) = false := by simpa using h0
       simp only [o_pure, o_guard, gk_ft, o_nil, POp.ev, Opd.ev, gv, setD, xsj, xel, pickV, binV, ne_eq, xnt, if_false, d0]
       simp [h0]
   · simp only [Bool.and_eq_true, decide_eq_true_eq] at hg
     refine s_reg1 ?_
     simp only [o_pure, o_nil, POp.ev, Opd.ev, setD, List.set, xsj, xel]
     simp +decide only [pqn]
     refine ⟨0, ⟨by rw [hg.1]; simp, by omega, Nat.le_refl _⟩, fun _ => rfl, trivial, rfl⟩
   · refine s_skip1 ?_
     simp +decide only [pqn]
     refine ⟨k, ⟨rfl, Nat.le_refl _, Nat.le_refl _⟩, fun h0 => ?_, trivial, rfl⟩
     subst h0
     simp at hg
     omega
 rintro e' H2 ⟨K0, hK0, hz0, rfl, rfl⟩
 refine s_block ?_
 refine s_loop1 (fun j e' H' => ∃ (N : Int) (K : Nat), K = j ∧ Low n k N K ∧ H' = H2 ∧ e' = [.int .i64 N, .int .i64 (K : Int), .pointer (some ⟨r, 0, none⟩), .bool false, undef]) K0 ⟨n, K0, rfl, hK0, rfl, rfl⟩ ?_
 clear hK0 hz0
 rintro j e' H2 ⟨N, K, rfl, hK, rfl, rfl⟩
 obtain ⟨h1, h2, h3⟩ := hK
 refine s_test_same (decide (0 < (K : Int)) && (N.tmod 2 == 0)) ?_ (fun hg => ?_) (fun hg => ?_)
 · by_cases h0 : 0 < (K : Int)
   · have d0 : decide ((K : Int) > 0) = true := by simpa using h0
     simp only [o_pure, o_guard, gk_tt, o_nil, POp.ev, Opd.ev, gv, setD, xsj, xel, pickV, binV, ne_eq, xnt, if_false, d0, e2]
     simp [h0]
   · have d0 : decide ((K : Int) > 0) = false := by simpa using h0
     simp only [o_pure, o_guard, gk_ft, o_nil, POp.ev, Opd.ev, gv, setD, xsj, xel, pickV, binV, ne_eq, xnt, if_false, d0]
     simp [h0]
 · simp only [Bool.and_eq_true, decide_eq_true_eq, beq_iff_eq] at hg
   obtain ⟨K', rfl⟩ : ∃ K', K = K' + 1 := ⟨K - 1, by omega⟩
   have t1 := Int.mul_tdiv_add_tmod N 2
   have t4 : (N.tdiv 2).natAbs ≤ N.natAbs := by
     rw [Int.natAbs_tdiv]
     exact Nat.div_le_self _ _
   obtain ⟨M, hM⟩ : ∃ M, N.tdiv 2 = M := ⟨_, rfl⟩
   rw [hM] at t1 t4
   have w1 : IntKind.i64.wrap M = M := wr_id (by omega) (by omega)
   have w2 : IntKind.i64.wrap (((K' + 1 : Nat) : Int) - 1) = (K' : Int) := by rw [show ((K' + 1 : Nat) : Int) - 1 = (K' : Int) by omega]; exact wr_nat (by omega)
   refine s_skip1 ?_
   simp +decide only [pqn]
   refine s_block1 ?_
   refine s_reg ?_
   simp only [o_pure, o_nil, POp.ev, Opd.ev, gv, setD, List.set, xsj, xel, binV, ne_eq, xnt, if_false, e2, hM, w1]
   refine s_reg1 ?_
   simp only [o_pure, o_nil, POp.ev, Opd.ev, gv, setD, List.set, xsj, xel, binV, ne_eq, xnt, if_false, w2]
   simp +decide only [pqn, pbn]
   refine Round.mk K' (by omega) ⟨M, K', rfl, ⟨?_, by omega, by omega⟩, rfl, rfl⟩
   have e : N = 2 * M := by omega
   have e3 : n * 2 ^ (K' + 1) = 2 * (n * 2 ^ K') := by rw [Int.pow_succ, Int.mul_comm (2 ^ K') 2, Int.mul_left_comm]
   have e4 : 2 * M * 2 ^ k = 2 * (M * 2 ^ k) := Int.mul_assoc _ _ _
   rw [e, e3, e4] at h1
   omega
 · refine s_exit1 ?_
   simp +decide only [pqn, pqe, pbe, reduceIte]
   have ho : K = 0 ∨ N.tmod 2 ≠ 0 := by
     simp only [Bool.and_eq_false_iff, decide_eq_false_iff_not, beq_eq_false_iff_ne] at hg
     rcases hg with hg | hg
     · left; omega
     · right; simpa using hg
   have hnx := hx.next
   refine s_reg ?_
   simp only [o_pure, o_eff, o_nil, POp.ev, Opd.ev, EOp.ev, gv, setD, List.set, List.map, xms, xsj, xel, fill2]
   have hst : storeH lim (H2.alloc [.int .i64 0, .int .i64 0]) 2 (.pointer (some ⟨H2.next, 0, none⟩)) (.agg #[vi N, vi (K : Int)]) = some (undef, (H2.alloc [.int .i64 0, .int .i64 0]).put H2.next [vi N, vi (K : Int)]) := store2 (by omega) (alloc_new _ _)
   simp only [xsj, xel, hst]
   have hx2 : Ext H2 ((H2.alloc [.int .i64 0, .int .i64 0]).put H2.next [vi N, vi (K : Int)]) := Chg.ext (Ext.alloc _ _) (Chg.put _ _ _) (Nat.le_refl _)
   have ho4 : ((H2.alloc [.int .i64 0, .int .i64 0]).put H2.next [vi N, vi (K : Int)]).blk H2.next = some [vi N, vi (K : Int)] := put_same _ _ _
   have hl4 : H2.next < ((H2.alloc [.int .i64 0, .int .i64 0]).put H2.next [vi N, vi (K : Int)]).next := Nat.lt_succ_self _
   generalize (H2.alloc [.int .i64 0, .int .i64 0]).put H2.next [vi N, vi (K : Int)] = H3 at hx2 ho4 hl4 ⊢
   refine s_test ?_
   simp only [o_pure, o_callF, POp.ev, Opd.ev, gv, setD, List.map, xsj, xel, load2 ho4]
   refine (dyGood_ok lim N K H3 (by omega) (by omega) ho).mono ?_
   rintro _ H4 ⟨rfl, hx4⟩
   have ho5 : H4.blk H2.next = some [vi N, vi (K : Int)] := by rw [hx4.blk _ hl4]; exact ho4
   have hr4 : H4.blk r = some [.int .i64 0, .int .i64 0] := by rw [(hx2.trans hx4).blk _ hrl]; exact hr
   simp only [o_cont, o_pure, o_nil, POp.ev, Opd.ev, gv, setD, xsj, xel, unV, Bool.not_true]
   refine Test.false_ (s_skip1 ?_)
   simp +decide only [pqn]
   refine s_reg ?_
   simp only [o_pure, o_eff, o_nil, POp.ev, Opd.ev, EOp.ev, gv, setD, List.set, xsj, xel, load2 ho5, store2 (lim := lim) (show lim ≤ r by omega) hr4]
   refine s_ret1 ?_
   simp +decide only [pfr, resV, resOne, resL, gv, xsj, xel, Option.bind_some, xms, load2 (put_same _ _ _)]
   exact ⟨⟨N, K, rfl, h1, h2, h3⟩, Chg.ext ((hx.trans hx2).trans hx4) (Chg.put _ _ _) (by omega)⟩
theorem bxNumber_ok (lim : Nat) (n : Int) (k : Nat) (H : AHeap) (hl : lim ≤ H.next) (hk : k ≤ 24) (hn : n.natAbs ≤ 1099511627776) :
   ACalls Tryz.prog lim n_spec_bxNumber [.int .i64 n, .int .i64 k] H fun v H' => (∃ N K, v = dyV N K ∧ Low n k N K) ∧ Ext H H' := by
 refine is_spec_bxNumber.go rfl ?_
 unfold c_spec_bxNumber
 refine s_reg ?_
 simp only [o_eff, o_nil, EOp.ev, env0, gu, setD, List.set, xsj, xel]
 have hx := Ext.alloc H [.int .i64 0, .int .i64 0]
 have hr : (H.alloc [.int .i64 0, .int .i64 0]).blk H.next = some [.int .i64 0, .int .i64 0] := alloc_new _ _
 have hrl : H.next < (H.alloc [.int .i64 0, .int .i64 0]).next := Nat.lt_succ_self _
 generalize H.alloc [.int .i64 0, .int .i64 0] = H1 at hx hr hrl ⊢
 have hnx := hx.next
 refine s_reg ?_
 simp only [o_pure, o_callF, POp.ev, Opd.ev, gv, setD, List.map, xsj, xel]
 refine (dyMake_ok lim n k H1 (by omega) hk hn).mono ?_
 rintro _ H2 ⟨⟨N, K, rfl, hlow⟩, hx2⟩
 have hnx2 := hx2.next
 have hst : storeH lim (H2.alloc [.int .i64 0, .int .i64 0]) 2 (.pointer (some ⟨H2.next, 0, none⟩)) (dyV N K) = some (undef, (H2.alloc [.int .i64 0, .int .i64 0]).put H2.next [vi N, vi (K : Int)]) := store2 (by omega) (alloc_new _ _)
 simp only [o_cont, o_pure, o_eff, o_nil, POp.ev, Opd.ev, EOp.ev, gv, setD, List.set, xsj, xel, extV, List.getElem?_toArray, xgz, xgs, hst]
 have hx3 : Ext H2 ((H2.alloc [.int .i64 0, .int .i64 0]).put H2.next [vi N, vi (K : Int)]) := Chg.ext (Ext.alloc _ _) (Chg.put _ _ _) (Nat.le_refl _)
 have ho4 : ((H2.alloc [.int .i64 0, .int .i64 0]).put H2.next [vi N, vi (K : Int)]).blk H2.next = some [vi N, vi (K : Int)] := put_same _ _ _
 generalize (H2.alloc [.int .i64 0, .int .i64 0]).put H2.next [vi N, vi (K : Int)] = H3 at hx3 ho4 ⊢
 have hr3 : H3.blk H.next = some [.int .i64 0, .int .i64 0] := by rw [(hx2.trans hx3).blk _ hrl]; exact hr
 refine s_reg ?_
 simp only [o_pure, o_eff, o_nil, POp.ev, Opd.ev, EOp.ev, gv, setD, xsj, xel, load2 ho4, store2 (lim := lim) hl hr3]
 refine s_ret1 ?_
 simp +decide only [pfr, resV, resOne, gv, xsj, xel, load2 (put_same _ _ _)]
 exact ⟨⟨N, K, rfl, hlow⟩, Chg.ext ((hx.trans hx2).trans hx3) (Chg.put _ _ _) (Nat.le_refl _)⟩
def TwoV (lo : Nat) (H : AHeap) (b c : Nat) (v w : Value) (l m : List Int) : Prop := VecI H b v l ∧ VecI H c w m ∧ lo ≤ b ∧ lo ≤ c ∧ (l = [] ∧ m = [] ∧ v = .slice none 0 0 ∧ w = .slice none 0 0 ∨ b ≠ c ∧ b < H.next ∧ c < H.next)
theorem TwoV.push {lim lo : Nat} {H0 H : AHeap} {b c : Nat} {v w : Value} {l m : List Int} (h : TwoV lo H b c v w l m) (hlim : lim ≤ lo) (hx0 : Ext H0 H) (hlo : H0.next ≤ lo) (hloH : lo ≤ H.next) (x y : Int) (hl : l.length ≤ 1000) (hm : m.length ≤ 1000) :
   ∃ v' H1 w' H2 b' c', appendH lim (H.alloc [vi x]) 1 8 v (.slice (some ⟨H.next, 0, some 0⟩) 1 1) = some (v', H1) ∧ appendH lim (H1.alloc [vi y]) 1 8 w (.slice (some ⟨H1.next, 0, some 0⟩) 1 1) = some (w', H2) ∧ TwoV lo H2 b' c' v' w' (l ++ [x]) (m ++ [y]) ∧ Ext H0 H1 ∧ Ext H0 H2 := by
 obtain ⟨h1, h2, h3, h4, h5⟩ := h
 obtain ⟨v', H1, b', e1, e2, e3, e4, e5, e6⟩ := push1 (lim := lim) (bytes := 8) h1 (vi x) (by omega) (by omega)
 have hn1 := e5.next
 obtain ⟨c0, k1, k2, k3⟩ : ∃ c0, VecI H1 c0 w m ∧ lo ≤ c0 ∧ (c0 ≠ b' ∧ (c0 < H1.next ∨ w = .slice none 0 0 ∧ m = [] ∧ H1.next < c0)) := by
   rcases h5 with ⟨rfl, rfl, rfl, rfl⟩ | ⟨g1, g2, g3⟩
   · exact ⟨H1.next + 1, Vec.nil _ _ _, by omega, by omega, .inr ⟨rfl, rfl, by omega⟩⟩
   · refine ⟨c, Vec.chg h2 e5 (fun e => g1 e.symm), h4, ?_, .inl (by omega)⟩
     rcases e3 with rfl | e3
     · exact fun e => g1 e.symm
     · omega
 obtain ⟨w', H2, c', f1, f2, f3, f4, f5, f6⟩ := push1 (lim := lim) (bytes := 8) k1 (vi y) (by omega) (by omega)
 have hn2 := f5.next
 have hx1 := Chg.ext hx0 e5 (by omega)
 refine ⟨v', H1, w', H2, b', c', e1, f1, ⟨?_, ?_, by omega, by omega, .inr ⟨?_, by omega, f4⟩⟩, hx1, Chg.ext hx1 f5 (by omega)⟩
 · exact Vec.chg (VecI.snoc e2) f5 (fun e => k3.1 e.symm)
 · exact VecI.snoc f2
 · rcases f3 with rfl | f3
   · exact fun e => k3.1 e.symm
   · omega
def Sm (l : List Int) : Prop := ∀ x ∈ l, x.natAbs ≤ 1000000000000
theorem Sm.get {l : List Int} (h : Sm l) {i : Nat} (hi : i < l.length) : l[i].natAbs ≤ 1000000000000 := h _ (List.getElem_mem hi)
theorem Sm.dbl {l : List Int} (h : ∀ x ∈ l, x.natAbs ≤ 500000000000) : Sm (dbl l) := by
 intro x hx
 obtain ⟨y, hy, rfl⟩ := List.mem_map.1 hx
 have := h y hy
 omega
theorem bxFine_ok (lim : Nat) (v : Value) (k : Int) (low high : List Int) (H : AHeap) (hl : lim ≤ H.next) (hv : BoxV H v k low high) (hn : low.length ≤ 900) (hlen : high.length = low.length) (hs1 : Sm low) (hs2 : Sm high) :
   ACalls Tryz.prog lim n_spec_bxFine [v] H fun v H' => (∃ s t b c, v = .tuple #[s, t] ∧ H.next ≤ b ∧ H.next ≤ c ∧ VecI H' b s (dbl low) ∧ VecI H' c t (dbl high)) ∧ Ext H H' := by
 obtain ⟨s, t, rfl, hs, ht⟩ := hv
 refine is_spec_bxFine.go rfl ?_
 unfold c_spec_bxFine
 refine s_reg ?_
 simp only [o_pure, o_eff, o_nil, POp.ev, Opd.ev, EOp.ev, env0, gu, gv, setD, List.set, xms, xsj, xel, boxH, cellsV]
 have hx := Ext.alloc H [.int .i64 k, s, t]
 have hbp : (H.alloc [.int .i64 k, s, t]).blk H.next = some [.int .i64 k, s, t] := alloc_new _ _
 have hbl : H.next < (H.alloc [.int .i64 k, s, t]).next := Nat.lt_succ_self _
 generalize H.alloc [.int .i64 k, s, t] = H1 at hx hbp hbl ⊢
 generalize hq : H.next = q at *
 have hs' := SlI.ext hs hx
 have ht' := SlI.ext ht hx
 refine s_reg ?_
 simp only [o_pure, o_nil, POp.ev, Opd.ev, setD, List.set, xsj, xel]
 refine s_assoc (s_reg ?_)
 simp only [o_pure, o_nil, POp.ev, Opd.ev, gv, setD, List.set, xsj, xel, load1V, fadV, xgz, xgs, Nat.zero_add, cell_blk hbp, hs'.lenV]
 refine s_block ?_
 have hn1 := hx.next
 refine s_loop1 (fun j e' H' => ∃ (i b c : Nat) (v4 v5 x6 x7 : Value), i + j = low.length ∧ TwoV H1.next H' b c v4 v5 (dbl (low.take i)) (dbl (high.take i)) ∧ Ext H1 H' ∧ e' = [.agg #[.int .i64 k, s, t], .pointer (some ⟨q, 0, none⟩), .slice none 0 0, .slice none 0 0, v4, v5, x6, x7, s, .int .i64 low.length, .int .i64 i]) low.length ⟨0, H1.next, H1.next, .slice none 0 0, .slice none 0 0, _, _, by omega, ⟨Vec.nil _ _ _, Vec.nil _ _ _, Nat.le_refl _, Nat.le_refl _, .inl ⟨rfl, rfl, rfl, rfl⟩⟩, Ext.refl _, rfl⟩ ?_
 rintro j e' H2 ⟨i, b, c, v4, v5, x6, x7, hij, h2, hx2, rfl⟩
 have hn2 := hx2.next
 refine s_test ?_
 simp only [o_pure, o_nil, POp.ev, Opd.ev, gv, setD, xsj, xel, binV, ne_eq, xnt, if_false]
 refine Test.split (fun hlt => ?_) (fun hlt => ?_)
 · have hlt' : i < low.length := by simpa using hlt
   have hlt2 : i < high.length := by omega
   obtain ⟨b1, o1, u1, u2⟩ := ints_at (SlI.ext hs' hx2) hlt'
   have g1 : low.getD i 0 = low[i] := by simp [hlt']
   have g2 : high.getD i 0 = high[i] := by simp [hlt2]
   have m1 := hs1.get hlt'
   have m2 := hs2.get hlt2
   have w1 : IntKind.i64.wrap (2 * low[i]) = 2 * low[i] := wr_id (by omega) (by omega)
   have w2 : IntKind.i64.wrap (2 * high[i]) = 2 * high[i] := wr_id (by omega) (by omega)
   obtain ⟨v', H3, w', H4, b', c', e1, e2, e3, e4, e5⟩ := h2.push (lim := lim) (by omega) hx2 (Nat.le_refl _) hn2 (2 * low[i]) (2 * high[i]) (by rw [dbl_length, List.length_take]; omega) (by rw [dbl_length, List.length_take]; omega)
   obtain ⟨b2, o2, y1, y2⟩ := ints_at (SlI.ext ht' e4) hlt2
   have hbp3 : H3.blk q = some [.int .i64 k, s, t] := by rw [e4.blk _ hbl]; exact hbp
   refine s_skip1 ?_
   simp +decide only [pqn]
   refine s_block1 ?_
   refine s_reg ?_
   simp only [o_pure, o_nil, POp.ev, Opd.ev, gv, setD, List.set, xsj, xel, load1V, u1, u2]
   rw [g1]
   refine s_reg ?_
   simp only [o_pure, o_eff, o_nil, POp.ev, Opd.ev, EOp.ev, gv, setD, List.set, List.map, xsj, xel, binV, ne_eq, xnt, if_false, w1, bsliceV _ (.int .i64 0) (x := .int .i64 (2 * low[i])) rfl, e1]
   refine s_reg1 ?_
   simp only [o_pure, o_eff, o_nil, POp.ev, Opd.ev, EOp.ev, gv, setD, List.set, List.map, xsj, xel, binV, load1V, fadV, ne_eq, xnt, if_false, xgz, xgs, Nat.zero_add, cell_blk hbp3, y1, y2]
   rw [g2]
   simp only [xsj, xel, w2, bsliceV _ (.int .i64 0) (x := .int .i64 (2 * high[i])) rfl, e2]
   simp +decide only [pqn, pbn]
   refine s_reg1 ?_
   simp only [o_pure, o_nil, POp.ev, Opd.ev, gv, setD, List.set, xsj, xel, binV, ne_eq, xnt, if_false, add1 (i := i) (by omega)]
   simp +decide only [pqn]
   refine Round.mk (j - 1) (by omega) ⟨i + 1, b', c', v', w', _, _, by omega, ?_, e5, rfl⟩
   rw [List.take_succ_eq_append_getElem hlt', List.take_succ_eq_append_getElem hlt2, dbl_append, dbl_append]
   exact e3
 · have hge : i = low.length := by simp at hlt; omega
   subst hge
   refine s_exit1 ?_
   simp +decide only [pqn, pqe, pbe, reduceIte]
   refine s_reg ?_
   simp only [o_pure, o_nil, POp.ev, Opd.ev, gv, setD, List.set, xsj, xel]
   refine s_ret1 ?_
   simp +decide only [pfr, resV, resOne, resL, gv, xsj, xel, Option.bind_some, xms]
   rw [List.take_length, ← hlen, List.take_length] at h2
   obtain ⟨g1, g2, g3, g4, _⟩ := h2
   exact ⟨⟨v4, v5, b, c, rfl, by omega, by omega, g1, g2⟩, hx.trans hx2⟩
def BoxC (H : AHeap) (P : Nat → Prop) (v : Value) (x : BX) : Prop := v = bxv x ∧ ∃ c d, VecI H c x.s x.lo ∧ VecI H d x.t x.hi ∧ P c ∧ c < H.next ∧ P d ∧ d < H.next
theorem BoxC.boxV {H : AHeap} {P : Nat → Prop} {v : Value} {x : BX} (h : BoxC H P v x) : BoxV H v x.k x.lo x.hi := by
 obtain ⟨rfl, c, d, h1, h2, _⟩ := h
 exact ⟨x.s, x.t, rfl, Vec.sl h1, Vec.sl h2⟩
theorem BoxC.ext {H H' : AHeap} {P : Nat → Prop} {v : Value} {x : BX} (h : BoxC H P v x) (hx : Ext H H') : BoxC H' P v x := by
 obtain ⟨rfl, c, d, h1, h2, h3, h4, h5, h6⟩ := h
 have := hx.next
 exact ⟨rfl, c, d, Vec.ext h1 hx, Vec.ext h2 hx, h3, by omega, h5, by omega⟩
theorem bxHalves_ok (lim : Nat) (v : Value) (k : Nat) (low high : List Int) (side : Nat) (H : AHeap) (hl : lim ≤ H.next) (hv : BoxV H v k low high) (hside : side < low.length) (hn : low.length ≤ 900) (hlen : high.length = low.length) (hk : k ≤ 1000) (hs1 : Sm low) (hs2 : Sm high)
   (hg1 : goodB (normB (k + 1) (dbl low) ((dbl high).set side (low.getD side 0 + high.getD side 0))).1 (normB (k + 1) (dbl low) ((dbl high).set side (low.getD side 0 + high.getD side 0))).2.1 (normB (k + 1) (dbl low) ((dbl high).set side (low.getD side 0 + high.getD side 0))).2.2 = true)
   (hg2 : goodB (normB (k + 1) ((dbl low).set side (low.getD side 0 + high.getD side 0)) (dbl high)).1 (normB (k + 1) ((dbl low).set side (low.getD side 0 + high.getD side 0)) (dbl high)).2.1 (normB (k + 1) ((dbl low).set side (low.getD side 0 + high.getD side 0)) (dbl high)).2.2 = true) :
   ACalls Tryz.prog lim n_spec_bxHalves [v, .int .i64 side] H fun v H' => (∃ (w : Value) (x y : BX) (b : Nat), v = .tuple #[w, .bool true] ∧ dat x = normB (k + 1) (dbl low) ((dbl high).set side (low.getD side 0 + high.getD side 0)) ∧ dat y = normB (k + 1) ((dbl low).set side (low.getD side 0 + high.getD side 0)) (dbl high) ∧ GrowB H' H.next (H.next ≤ ·) b w [x, y]) ∧ Ext H H' := by
 obtain ⟨s, t, rfl, hs, ht⟩ := hv
 refine is_spec_bxHalves.go rfl ?_
 unfold c_spec_bxHalves
 refine s_reg ?_
 simp only [o_pure, o_eff, o_nil, POp.ev, Opd.ev, EOp.ev, env0, gu, gv, setD, List.set, xms, xsj, xel, boxH, cellsV]
 have hx := Ext.alloc H [.int .i64 (k : Int), s, t]
 have hbp : (H.alloc [.int .i64 (k : Int), s, t]).blk H.next = some [.int .i64 (k : Int), s, t] := alloc_new _ _
 have hbl : H.next < (H.alloc [.int .i64 (k : Int), s, t]).next := Nat.lt_succ_self _
 generalize H.alloc [.int .i64 (k : Int), s, t] = H1 at hx hbp hbl ⊢
 have hs' := SlI.ext hs hx
 have ht' := SlI.ext ht hx
 have hn1 := hx.next
 generalize hq : H.next = q at *
 refine s_reg ?_
 simp only [o_pure, o_callF, POp.ev, Opd.ev, gv, setD, List.map, xsj, xel, load3 hbp]
 refine (bxFine_ok lim _ k low high H1 (by omega) ⟨s, t, rfl, hs', ht'⟩ hn hlen hs1 hs2).mono ?_
 rintro _ H2 ⟨⟨lo, hi, b, c, rfl, hb, hc, hlo, hhi⟩, hx2⟩
 have hn2 := hx2.next
 simp only [o_cont, o_pure, o_nil, POp.ev, Opd.ev, gv, setD, List.set, xsj, xel, extV, List.getElem?_toArray, xgz, xgs]
 have hbp2 : H2.blk q = some [.int .i64 (k : Int), s, t] := by rw [hx2.blk _ hbl]; exact hbp
 have hside2 : side < high.length := by omega
 obtain ⟨b1, o1, u1, u2⟩ := ints_at (SlI.ext hs' hx2) hside
 obtain ⟨b2, o2, y1, y2⟩ := ints_at (SlI.ext ht' hx2) hside2
 have m1 := hs1.get hside
 have m2 := hs2.get hside2
 have g1 : low.getD side 0 = low[side] := by simp [hside]
 have g2 : high.getD side 0 = high[side] := by simp [hside2]
 have wm : IntKind.i64.wrap (low.getD side 0 + high.getD side 0) = low.getD side 0 + high.getD side 0 := by rw [g1, g2]; exact wr_id (by omega) (by omega)
 refine s_reg ?_
 simp only [o_pure, o_nil, POp.ev, Opd.ev, gv, setD, List.set, xsj, xel, binV, load1V, fadV, ne_eq, xnt, if_false, xgz, xgs, Nat.zero_add, cell_blk hbp2, u1, u2, y1, y2, wm]
 have hM : (low.getD side 0 + high.getD side 0).natAbs ≤ 2000000000000 := by rw [g1, g2]; omega
 generalize low.getD side 0 + high.getD side 0 = M at *
 have rngI : ∀ (l : List Int), Sm l → InR ((dbl l)) ∧ ∀ i, InR ((dbl l).set i M) := by
   intro l h
   have h0 : InR (dbl l) := by
     intro x hx
     obtain ⟨y, hy, rfl⟩ := List.mem_map.1 hx
     have := h y hy
     omega
   exact ⟨h0, fun i => h0.set i (by omega)⟩
 refine s_reg ?_
 simp only [o_pure, o_callF, POp.ev, Opd.ev, gv, setD, List.map, xsj, xel]
 refine (Ints.l1Own_ok lim lo (dbl low) H2 (by omega) (Vec.sl hlo) (by rw [dbl_length]; omega)).mono ?_
 rintro up H3 ⟨d, hd1, hd2, hup, hx3⟩
 have hn3 := hx3.next
 simp only [o_cont, o_pure, o_callF, POp.ev, Opd.ev, gv, setD, List.map, xsj, xel]
 refine (Ints.l1Own_ok lim hi (dbl high) H3 (by omega) (Vec.sl (Vec.ext hhi hx3)) (by rw [dbl_length]; omega)).mono ?_
 rintro dn H4 ⟨e, he1, he2, hdn, hx4⟩
 have hn4 := hx4.next
 simp only [o_cont, o_pure, o_nil, POp.ev, Opd.ev, gv, setD, List.set, xsj, xel]
 have hx24 := hx3.trans hx4
 obtain ⟨p1, _⟩ := VecI.at (Vec.ext hup hx4) (i := side) (by rw [dbl_length]; exact hside)
 obtain ⟨cs, hst, hup5⟩ := VecI.put (lim := lim) (Vec.ext hup hx4) (by omega) (i := side) (by rw [dbl_length]; exact hside) M
 refine s_reg ?_
 simp only [o_pure, o_eff, o_nil, POp.ev, Opd.ev, EOp.ev, gv, setD, xsj, xel, p1, hst]
 have hc5 : Chg d H4 (H4.put d cs) := Chg.put _ _ _
 have hdn5 := Vec.chg hdn hc5 (by omega)
 obtain ⟨p2, _⟩ := VecI.at hdn5 (i := side) (by rw [dbl_length]; exact hside2)
 obtain ⟨cs2, hst2, hdn6⟩ := VecI.put (lim := lim) hdn5 (by omega) (i := side) (by rw [dbl_length]; exact hside2) M
 refine s_reg ?_
 simp only [o_pure, o_eff, o_nil, POp.ev, Opd.ev, EOp.ev, gv, setD, xsj, xel, p2, hst2]
 have hc6 : Chg e (H4.put d cs) ((H4.put d cs).put e cs2) := Chg.put _ _ _
 have hup6 := Vec.chg hup5 hc6 (by omega)
 have hx26 : Ext H2 ((H4.put d cs).put e cs2) := Chg.ext (Chg.ext hx24 hc5 (by omega)) hc6 (by omega)
 generalize (H4.put d cs).put e cs2 = H6 at hup6 hdn6 hx26 ⊢
 clear hup5 hdn5 hc5 hc6 hst hst2 hdn hup
 have hn6 := hx26.next
 have hbp6 : H6.blk q = some [.int .i64 (k : Int), s, t] := by rw [hx26.blk _ (by omega)]; exact hbp2
 have hlo6 := Vec.ext hlo hx26
 have hhi6 := Vec.ext hhi hx26
 have hx06 := (hx.trans hx2).trans hx26
 obtain ⟨q1, q1'⟩ := rngI low hs1
 obtain ⟨q2, q2'⟩ := rngI high hs2
 refine s_reg ?_
 simp only [o_pure, o_callF, POp.ev, Opd.ev, gv, setD, List.map, xsj, xel, binV, load1V, fadV, ne_eq, xnt, if_false, xgz, Nat.zero_add, cell_blk hbp6, add1 (i := k) (by omega)]
 refine (bxMake_ok lim (k + 1) lo dn (dbl low) ((dbl high).set side M) H6 (by omega) (Vec.sl hlo6) (Vec.sl hdn6) (by rw [dbl_length]; omega) (by rw [List.length_set, dbl_length, dbl_length]; exact hlen) (by omega) q1 (q2' side)).mono ?_
 rintro _ H7 ⟨hR1, hx7⟩
 have hn7 := hx7.next
 simp only [makeB, hg1] at hR1
 rcases hR1 with ⟨h0, _⟩ | ⟨_, s1, t1, c1, d1, rfl, i1, i2, i3, i4, i5⟩
 · cases h0
 have l1 := normB_len (k + 1) (dbl low) ((dbl high).set side M) (by rw [List.length_set, dbl_length, dbl_length]; exact hlen)
 have l2 := normB_len (k + 1) ((dbl low).set side M) (dbl high) (by rw [List.length_set, dbl_length, dbl_length]; exact hlen)
 rw [dbl_length] at l1
 rw [List.length_set, dbl_length] at l2
 have hst7 : storeH lim (H7.alloc [.int .i64 0, .slice none 0 0, .slice none 0 0]) 3 (.pointer (some ⟨H7.next, 0, none⟩)) (.agg #[.int .i64 ((normB (k + 1) (dbl low) ((dbl high).set side M)).1 : Int), s1, t1]) = some (undef, H7.alloc [.int .i64 ((normB (k + 1) (dbl low) ((dbl high).set side M)).1 : Int), s1, t1]) := store3_new (by omega)
 simp only [o_cont, o_pure, o_eff, o_nil, POp.ev, Opd.ev, EOp.ev, gv, setD, List.set, xsj, xel, extV, List.getElem?_toArray, xgz, xgs, hst7]
 have hx8 := Ext.alloc H7 [.int .i64 ((normB (k + 1) (dbl low) ((dbl high).set side M)).1 : Int), s1, t1]
 have hb8 : (H7.alloc [.int .i64 ((normB (k + 1) (dbl low) ((dbl high).set side M)).1 : Int), s1, t1]).blk H7.next = some [.int .i64 ((normB (k + 1) (dbl low) ((dbl high).set side M)).1 : Int), s1, t1] := alloc_new _ _
 have hl8 : H7.next < (H7.alloc [.int .i64 ((normB (k + 1) (dbl low) ((dbl high).set side M)).1 : Int), s1, t1]).next := Nat.lt_succ_self _
 generalize H7.alloc [.int .i64 ((normB (k + 1) (dbl low) ((dbl high).set side M)).1 : Int), s1, t1] = H8 at hx8 hb8 hl8 ⊢
 have hx68 := hx7.trans hx8
 have hbp8 : H8.blk q = some [.int .i64 (k : Int), s, t] := by rw [hx68.blk _ (by omega)]; exact hbp6
 refine s_reg ?_
 simp only [o_pure, o_callF, POp.ev, Opd.ev, gv, setD, List.map, xsj, xel, binV, load1V, fadV, ne_eq, xnt, if_false, xgz, Nat.zero_add, cell_blk hbp8, add1 (i := k) (by omega)]
 refine (bxMake_ok lim (k + 1) up hi ((dbl low).set side M) (dbl high) H8 (by omega) (Vec.sl (Vec.ext hup6 hx68)) (Vec.sl (Vec.ext hhi6 hx68)) (by rw [List.length_set, dbl_length]; omega) (by rw [List.length_set, dbl_length, dbl_length]; exact hlen) (by omega) (q1' side) q2).mono ?_
 rintro _ H9 ⟨hR2, hx9⟩
 have hn9 := hx9.next
 simp only [makeB, hg2] at hR2
 rcases hR2 with ⟨h0, _⟩ | ⟨_, s2, t2, c2, d2, rfl, j1, j2, j3, j4, j5⟩
 · cases h0
 have hst9 : storeH lim (H9.alloc [.int .i64 0, .slice none 0 0, .slice none 0 0]) 3 (.pointer (some ⟨H9.next, 0, none⟩)) (.agg #[.int .i64 ((normB (k + 1) ((dbl low).set side M) (dbl high)).1 : Int), s2, t2]) = some (undef, H9.alloc [.int .i64 ((normB (k + 1) ((dbl low).set side M) (dbl high)).1 : Int), s2, t2]) := store3_new (by omega)
 simp only [o_cont, o_pure, o_eff, o_nil, POp.ev, Opd.ev, EOp.ev, gv, setD, List.set, xsj, xel, extV, List.getElem?_toArray, xgz, xgs, hst9]
 have hx10 := Ext.alloc H9 [.int .i64 ((normB (k + 1) ((dbl low).set side M) (dbl high)).1 : Int), s2, t2]
 have hb10 : (H9.alloc [.int .i64 ((normB (k + 1) ((dbl low).set side M) (dbl high)).1 : Int), s2, t2]).blk H9.next = some [.int .i64 ((normB (k + 1) ((dbl low).set side M) (dbl high)).1 : Int), s2, t2] := alloc_new _ _
 generalize H9.alloc [.int .i64 ((normB (k + 1) ((dbl low).set side M) (dbl high)).1 : Int), s2, t2] = H10 at hx10 hb10 ⊢
 have hb8' : H10.blk H7.next = some [.int .i64 ((normB (k + 1) (dbl low) ((dbl high).set side M)).1 : Int), s1, t1] := by rw [(hx9.trans hx10).blk _ hl8]; exact hb8
 have hx710 := (hx8.trans hx9).trans hx10
 refine s_test ?_
 simp only [o_pure, o_guard, gk_ff, o_nil, POp.ev, Opd.ev, gv, setD, xsj, xel, pickV, unV, Bool.not_true]
 refine Test.false_ (s_skip1 ?_)
 simp +decide only [pqn]
 have ht2 := bslice_two H10 ⟨(normB (k + 1) (dbl low) ((dbl high).set side M)).1, s1, t1, (normB (k + 1) (dbl low) ((dbl high).set side M)).2.1, (normB (k + 1) (dbl low) ((dbl high).set side M)).2.2⟩ ⟨(normB (k + 1) ((dbl low).set side M) (dbl high)).1, s2, t2, (normB (k + 1) ((dbl low).set side M) (dbl high)).2.1, (normB (k + 1) ((dbl low).set side M) (dbl high)).2.2⟩
 simp only [bxv] at ht2
 refine s_reg ?_
 simp only [o_pure, o_eff, o_nil, POp.ev, Opd.ev, EOp.ev, gv, setD, List.set, List.map, xsj, xel, load3 hb8', load3 hb10, ht2]
 refine s_ret1 ?_
 simp +decide only [pfr, resV, resOne, resL, gv, xsj, xel, Option.bind_some, xms]
 have hx11 := Ext.alloc H10 (bxs [⟨(normB (k + 1) (dbl low) ((dbl high).set side M)).1, s1, t1, (normB (k + 1) (dbl low) ((dbl high).set side M)).2.1, (normB (k + 1) (dbl low) ((dbl high).set side M)).2.2⟩, ⟨(normB (k + 1) ((dbl low).set side M) (dbl high)).1, s2, t2, (normB (k + 1) ((dbl low).set side M) (dbl high)).2.1, (normB (k + 1) ((dbl low).set side M) (dbl high)).2.2⟩])
 have hn10 := hx10.next
 have hn11 := hx11.next
 have hn710 := hx710.next
 have z1 : c1 < H7.next := (Vec.blk i4 (by omega)).elim fun _ h => h.2
 have z2 : d1 < H7.next := (Vec.blk i5 (by omega)).elim fun _ h => h.2
 have z3 : c2 < H9.next := (Vec.blk j4 (by omega)).elim fun _ h => h.2
 have z4 : d2 < H9.next := (Vec.blk j5 (by omega)).elim fun _ h => h.2
 refine ⟨⟨_, ⟨_, s1, t1, _, _⟩, ⟨_, s2, t2, _, _⟩, H10.next, rfl, rfl, rfl, ⟨Vec.lit (by rw [bxs_length]; rfl), by omega, .inr (Nat.lt_succ_self _), ?_⟩⟩, (((hx06.trans hx7).trans hx710).trans hx11)⟩
 intro x hxm
 simp only [List.mem_cons, List.not_mem_nil, or_false] at hxm
 rcases hxm with rfl | rfl
 · exact ⟨c1, d1, Vec.ext i4 (hx710.trans hx11), Vec.ext i5 (hx710.trans hx11), by omega, by omega, by omega, by omega, by omega, by omega⟩
 · exact ⟨c2, d2, Vec.ext j4 (hx10.trans hx11), Vec.ext j5 (hx10.trans hx11), by omega, by omega, by omega, by omega, by omega, by omega⟩
theorem m_pow (K r : Nat) : (8 : Int) * 2 ^ (K + r) = 8 * 2 ^ K * 2 ^ r := by rw [Int.pow_add, Int.mul_assoc]
theorem lev_good {K r n : Nat} {pl ph av hs : List Int} {is : List Nat} (hpl : ph.length = pl.length) (hav : hs.length = av.length) (his : is.length = av.length) (hn : pl.length + av.length = n) (h1 : 1 ≤ n) (h3 : n ≤ 3) (hK : K + r + 1 ≤ 8) (hr1 : rngB (8 * 2 ^ (K + r + 1)) pl ph = true) (hr2 : rngB (8 * 2 ^ K) av hs = true) (hi : ∀ i ∈ is, i + 1 ≤ 2 ^ r) :
   goodB (normB (K + r + 1) (pl ++ dbl (lowR r av hs is)) (ph ++ dbl (highR r av hs is))).1 (normB (K + r + 1) (pl ++ dbl (lowR r av hs is)) (ph ++ dbl (highR r av hs is))).2.1 (normB (K + r + 1) (pl ++ dbl (lowR r av hs is)) (ph ++ dbl (highR r av hs is))).2.2 = true := by
 have e1 := lowR_length r av hs is hav his
 have e2 := highR_length r av hs is hav his
 refine norm_good (by simp only [List.length_append, dbl_length]; omega) (by simp only [List.length_append, dbl_length]; omega) (by simp only [List.length_append, dbl_length]; omega) hK ?_
 rw [rngB_append _ _ _ _ _ hpl, hr1, Bool.true_and, show K + r + 1 = (K + r) + 1 from rfl, Int.pow_succ, m_pow' K r, rngB_dbl]
 exact lev_rng hr2 hi
where
 m_pow' (K r : Nat) : (8 : Int) * (2 ^ (K + r) * 2) = 2 * (8 * 2 ^ K * 2 ^ r) := by
   rw [← m_pow]
   omega
theorem bxParts_ok (n : Nat) (h1 : 1 ≤ n) (h3 : n ≤ 3) : ∀ (f lim : Nat) (v : Value) (x : BX) (pl ph av hs : List Int) (is : List Nat) (K r : Nat) (P : Nat → Prop) (H : AHeap), lim ≤ H.next → BoxC H P v x →
   dat x = normB (K + r + 1) (pl ++ dbl (lowR r av hs is)) (ph ++ dbl (highR r av hs is)) → ph.length = pl.length → av.length = f → hs.length = av.length → is.length = av.length → pl.length + av.length = n → K + r + 1 ≤ 8 → rngB (8 * 2 ^ (K + r + 1)) pl ph = true → rngB (8 * 2 ^ K) av hs = true → (∀ i ∈ is, i + 1 ≤ 2 ^ r) →
   ACalls Tryz.prog lim n_spec_bxParts [v, .int .i64 pl.length] H fun v H' => (∃ w es b, v = .tuple #[w, .bool true] ∧ es.map dat = partsL (K + r + 1) r pl ph av hs is ∧ GrowB H' H.next (fun c => P c ∧ c < H.next ∨ H.next ≤ c) b w es) ∧ Ext H H'
 | 0, lim, v, x, pl, ph, av, hs, is, K, r, P, H, hl, hbx, hd, hpl, hf, hav, his, hn, hK, hr1, hr2, hi => by
   have ea : av = [] := List.length_eq_zero_iff.1 hf
   subst ea
   have eh : hs = [] := List.length_eq_zero_iff.1 (by simpa using hav)
   subst eh
   have ei : is = [] := List.length_eq_zero_iff.1 (by simpa using his)
   subst ei
   have hd' : dat x = normB (K + r + 1) pl ph := by rw [hd]; simp [lowR, highR, dbl]
   obtain ⟨n1, n2⟩ := normB_len (K + r + 1) pl ph hpl
   rw [← hd'] at n1 n2
   simp only [dat] at n1 n2
   have hv := hbx
   obtain ⟨rfl, c, d, g1, g2, g3, g4, g5, g6⟩ := hv
   refine is_spec_bxParts.go rfl ?_
   unfold c_spec_bxParts bxv
   refine s_reg ?_
   simp only [o_pure, o_eff, o_nil, POp.ev, Opd.ev, EOp.ev, env0, gu, gv, setD, List.set, xms, xsj, xel, boxH, cellsV]
   have hx := Ext.alloc H [.int .i64 (x.k : Int), x.s, x.t]
   have hbp : (H.alloc [.int .i64 (x.k : Int), x.s, x.t]).blk H.next = some [.int .i64 (x.k : Int), x.s, x.t] := alloc_new _ _
   generalize H.alloc [.int .i64 (x.k : Int), x.s, x.t] = H1 at hx hbp ⊢
   have hnx := hx.next
   have hlv := Vec.lenV (Vec.ext g1 hx)
   rw [n1] at hlv
   have d1 : (((pl.length : Nat) : Int) == ((pl.length : Nat) : Int)) = true := by simp
   refine s_test ?_
   simp only [o_pure, o_nil, POp.ev, Opd.ev, gv, setD, xsj, xel, binV, load1V, fadV, ne_eq, xnt, if_false, beq_self_eq_true, xgz, xgs, Nat.zero_add, cell_blk hbp, hlv]
   refine Test.true_ (s_reg ?_)
   have hb1 := bslice_box H1 x (Vec.cellsV g1) (Vec.cellsV g2)
   simp only [bxv] at hb1
   simp only [o_pure, o_eff, o_nil, POp.ev, Opd.ev, EOp.ev, gv, setD, List.set, List.map, xsj, xel, load3 hbp, hb1]
   refine s_ret1 ?_
   simp +decide only [pqr, pfr, resV, resOne, resL, gv, xsj, xel, Option.bind_some, xms]
   have hx2 := Ext.alloc H1 (bxc x)
   refine ⟨⟨_, [x], H1.next, rfl, ?_, ⟨by rw [bxs_one]; exact Vec.lit rfl, by omega, .inr (Nat.lt_succ_self _), ?_⟩⟩, hx.trans hx2⟩
   · rw [partsL_nil, List.map_cons, List.map_nil, hd']
   · intro y hy
     rw [List.mem_singleton] at hy
     subst hy
     have := hx2.next
     exact ⟨c, d, Vec.ext g1 (hx.trans hx2), Vec.ext g2 (hx.trans hx2), .inl ⟨g3, g4⟩, by omega, .inl ⟨g5, g6⟩, by omega, by omega, by omega⟩
 | f + 1, lim, v, x, pl, ph, av, hs, is, K, r, P, H, hl, hbx, hd, hpl, hf, hav, his, hn, hK, hr1, hr2, hi => by
   obtain ⟨a, av, rfl⟩ : ∃ a av', av = a :: av' := by
     cases av with
     | nil => simp at hf
     | cons a av => exact ⟨a, av, rfl⟩
   obtain ⟨h, hs, rfl⟩ : ∃ h hs', hs = h :: hs' := by
     cases hs with
     | nil => simp at hav
     | cons h hs => exact ⟨h, hs, rfl⟩
   obtain ⟨i, is, rfl⟩ : ∃ i is', is = i :: is' := by
     cases is with
     | nil => simp at his
     | cons i is => exact ⟨i, is, rfl⟩
   have hgood := lev_good hpl hav his hn h1 h3 hK hr1 hr2 hi
   rw [← hd] at hgood
   simp only [dat] at hgood
   obtain ⟨_, q2, q3, q4, q5, q6, q7⟩ := goodB_small hgood
   have hLl : (pl ++ dbl (lowR r (a :: av) (h :: hs) (i :: is))).length = n := by simp only [List.length_append, dbl_length, lowR_length r _ _ _ hav his]; omega
   have hHl : (ph ++ dbl (highR r (a :: av) (h :: hs) (i :: is))).length = (pl ++ dbl (lowR r (a :: av) (h :: hs) (i :: is))).length := by rw [hLl]; simp only [List.length_append, dbl_length, highR_length r _ _ _ hav his]; omega
   obtain ⟨n1, n2⟩ := normB_len (K + r + 1) _ _ hHl
   have hh0 := half0 (K + r + 1) _ _ pl.length hHl
   have hh1 := half1 (K + r + 1) _ _ pl.length hHl
   obtain ⟨z0, z1⟩ := half_lev (K + r + 1) r pl ph av hs a h i is hpl
   rw [← hd] at hh0 hh1 n1 n2
   simp only [dat] at hh0 hh1 n1 n2
   rw [hLl] at n1 n2
   rw [z0] at hh0
   rw [z1] at hh1
   simp only [List.length_cons] at hf hav his hn
   have hrr := hr2
   simp only [rngB, Bool.and_eq_true, decide_eq_true_eq] at hrr
   obtain ⟨⟨⟨⟨a1, a2⟩, a3, a4⟩, a5⟩, a6⟩ := hrr
   have hi0 := hi i (by simp)
   have hi' : ∀ j ∈ is, j + 1 ≤ 2 ^ r := fun j hj => hi j (by simp [hj])
   have e2 : 2 ^ (r + 1) = 2 * 2 ^ r := by rw [Nat.pow_succ, Nat.mul_comm]
   have eM : (8 : Int) * 2 ^ (K + r + 1) = 8 * 2 ^ K * 2 ^ (r + 1) := by rw [Nat.add_assoc]; exact m_pow K (r + 1)
   have rng1 : ∀ j : Nat, j + 1 ≤ 2 ^ (r + 1) → rngB (8 * 2 ^ (K + r + 1)) (pl ++ [2 ^ (r + 1) * a + (j : Nat) * (h - a)]) (ph ++ [2 ^ (r + 1) * a + ((j : Nat) + 1) * (h - a)]) = true := by
     intro j hj
     obtain ⟨g1, g2, g3, g4, g5⟩ := side_rng (r := r + 1) (i := j) a1 a4 a5 hj
     rw [rngB_append _ _ _ _ _ hpl, hr1, Bool.true_and, eM]
     simp only [rngB, Bool.and_eq_true, decide_eq_true_eq]
     exact ⟨⟨⟨⟨g1, g2⟩, g3, g4⟩, g5⟩, trivial⟩
   have gd1 := lev_good (K := K) (r := r) (n := n) (pl := pl ++ [2 ^ (r + 1) * a + (2 * i : Nat) * (h - a)]) (ph := ph ++ [2 ^ (r + 1) * a + ((2 * i : Nat) + 1) * (h - a)]) (av := av) (hs := hs) (is := is) (by simp [hpl]) (by omega) (by omega) (by simp; omega) h1 h3 hK (rng1 (2 * i) (by omega)) a6 hi'
   have gd2 := lev_good (K := K) (r := r) (n := n) (pl := pl ++ [2 ^ (r + 1) * a + (2 * i + 1 : Nat) * (h - a)]) (ph := ph ++ [2 ^ (r + 1) * a + ((2 * i + 1 : Nat) + 1) * (h - a)]) (av := av) (hs := hs) (is := is) (by simp [hpl]) (by omega) (by omega) (by simp; omega) h1 h3 hK (rng1 (2 * i + 1) (by omega)) a6 hi'
   have hv := hbx
   obtain ⟨rfl, c, d, g1, g2, g3, g4, g5, g6⟩ := hv
   refine is_spec_bxParts.go rfl ?_
   unfold c_spec_bxParts
   refine s_reg ?_
   simp only [o_pure, o_eff, o_nil, POp.ev, Opd.ev, EOp.ev, env0, gu, gv, setD, List.set, xms, xsj, xel, boxH, cells_bxv, xms]
   have hx := Ext.alloc H (bxc x)
   have hbp : (H.alloc (bxc x)).blk H.next = some (bxc x) := alloc_new _ _
   have hbl : H.next < (H.alloc (bxc x)).next := Nat.lt_succ_self _
   generalize H.alloc (bxc x) = H1 at hx hbp hbl ⊢
   have hnx := hx.next
   have hlv := Vec.lenV (Vec.ext g1 hx)
   rw [n1] at hlv
   have d1 : (((pl.length : Nat) : Int) == ((n : Nat) : Int)) = false := by simp; omega
   unfold bxc at hbp
   refine s_test ?_
   simp only [o_pure, o_nil, POp.ev, Opd.ev, gv, setD, xsj, xel, binV, load1V, fadV, ne_eq, xnt, if_false, xgz, xgs, Nat.zero_add, cell_blk hbp, hlv, d1]
   refine Test.false_ (s_skip1 ?_)
   simp +decide only [pqn]
   refine s_reg ?_
   simp only [o_pure, o_callF, POp.ev, Opd.ev, gv, setD, List.map, xsj, xel, load3 hbp]
   refine (bxHalves_ok lim (.agg #[.int .i64 x.k, x.s, x.t]) x.k x.lo x.hi pl.length H1 (by omega) ⟨x.s, x.t, rfl, Vec.sl (Vec.ext g1 hx), Vec.sl (Vec.ext g2 hx)⟩ (by omega) (by omega) (by omega) (by omega) (fun y hy => by have := q6 y hy; omega) (fun y hy => by have := q7 y hy; omega) (by rw [hh0]; exact gd1) (by rw [hh1]; exact gd2)).mono ?_
   rw [hh0, hh1]
   rintro _ H2 ⟨⟨hw, x0, x1, hb, rfl, dx0, dx1, hG⟩, hx2⟩
   have hn2 := hx2.next
   simp only [o_cont, o_pure, o_nil, POp.ev, Opd.ev, gv, setD, List.set, xsj, xel, extV, List.getElem?_toArray, xgz, xgs]
   refine s_test ?_
   simp only [o_pure, o_nil, POp.ev, Opd.ev, gv, setD, xsj, xel, unV, Bool.not_true]
   refine Test.false_ (s_skip1 ?_)
   simp +decide only [pqn]
   obtain ⟨b0, o0, u0, w0⟩ := hG.slb.at (i := 0) (by simp)
   obtain ⟨b1, o1, u1, w1⟩ := hG.slb.at (i := 1) (by simp)
   have u0' : iadV 3 hw (.int .i64 0) = some (.pointer (some ⟨b0, o0, none⟩)) := u0
   have u1' : iadV 3 hw (.int .i64 1) = some (.pointer (some ⟨b1, o1, none⟩)) := u1
   simp only [List.getElem_cons_zero, List.getElem_cons_succ] at w0 w1
   have bc : ∀ (y : BX), y ∈ [x0, x1] → BoxC H2 (fun c => H.next ≤ c ∧ c < H2.next) (bxv y) y := by
     intro y hy
     obtain ⟨c, d, k1, k2, k3, k4, k5, k6, _⟩ := hG.el y hy
     exact ⟨rfl, c, d, k1, k2, ⟨by omega, k4⟩, k4, ⟨by omega, k6⟩, k6⟩
   have hpl1 : ∀ (p q : Int), (ph ++ [q]).length = (pl ++ [p]).length := fun p q => by simp [hpl]
   have hps : ∀ p : Int, (((pl ++ [p]).length : Nat) : Int) = ((pl.length + 1 : Nat) : Int) := fun p => by simp
   refine s_reg ?_
   simp only [o_pure, o_callF, POp.ev, Opd.ev, gv, setD, List.map, xsj, xel, binV, ne_eq, xnt, if_false, u0', w0 H2 (Ext.refl _), add1 (i := pl.length) (by omega)]
   rw [← hps (2 ^ (r + 1) * a + (2 * i : Nat) * (h - a))]
   refine (bxParts_ok n h1 h3 f lim _ x0 _ _ av hs is K r _ H2 (by omega) (bc x0 (by simp)) dx0 (hpl1 _ _) (by omega) (by omega) (by omega) (by simp; omega) hK (rng1 (2 * i) (by omega)) a6 hi').mono ?_
   rintro _ H3 ⟨⟨w1v, es1, b1v, rfl, de1, hG1⟩, hx3⟩
   have hn3 := hx3.next
   simp only [o_cont, o_pure, o_nil, POp.ev, Opd.ev, gv, setD, List.set, xsj, xel, extV, List.getElem?_toArray, xgz, xgs]
   refine s_reg ?_
   simp only [o_pure, o_callF, POp.ev, Opd.ev, gv, setD, List.map, xsj, xel, binV, ne_eq, xnt, if_false, u1', w1 H3 hx3, add1 (i := pl.length) (by omega)]
   rw [← hps (2 ^ (r + 1) * a + (2 * i + 1 : Nat) * (h - a))]
   refine (bxParts_ok n h1 h3 f lim _ x1 _ _ av hs is K r _ H3 (by omega) ((bc x1 (by simp)).ext hx3) dx1 (hpl1 _ _) (by omega) (by omega) (by omega) (by simp; omega) hK (rng1 (2 * i + 1) (by omega)) a6 hi').mono ?_
   rintro _ H4 ⟨⟨w2v, es2, b2v, rfl, de2, hG2⟩, hx4⟩
   have hn4 := hx4.next
   have len : ∀ (p q : List Int) (es : List BX), es.map dat = partsL (K + r + 1) r p q av hs is → es.length = (bitsI is).length := fun p q es he => by
     have := congrArg List.length he
     simpa [partsL] using this
   have hbit : ∀ js : List Nat, (bitsI js).length = 2 ^ js.length := by
     intro js
     induction js with
     | nil => rfl
     | cons j js ih => simp [bitsI, ih, Nat.pow_succ]; omega
   have hle1 := len _ _ _ de1
   have hle2 := len _ _ _ de2
   rw [hbit] at hle1 hle2
   have hp8 : 2 ^ is.length ≤ 2 ^ 3 := Nat.pow_le_pow_right (by decide) (by omega)
   have hG1' : GrowB H3 H2.next (fun c => P c ∧ c < H.next ∨ H.next ≤ c) b1v w1v es1 := hG1.lower hG1.low (fun c _ hc => by rcases hc with ⟨⟨h, _⟩, _⟩ | h <;> right <;> omega)
   obtain ⟨v5, H5, b5, e5, hG5, hx5⟩ := hG1'.appendL (lim := lim) (w := w2v) (es2 := es2) (H0 := H2) (by omega) hx3 (Nat.le_refl _) hn3 hx4 hG2.slb.1 (fun y hy => by
     obtain ⟨c, d, k1, k2, k3, k4, k5, k6, k7, k8⟩ := hG2.el y hy
     have hlow := hG1.low
     refine ⟨c, d, k1, k2, ?_, k4, ?_, k6, ?_⟩
     · rcases k3 with ⟨⟨h, _⟩, _⟩ | h <;> right <;> omega
     · rcases k5 with ⟨⟨h, _⟩, _⟩ | h <;> right <;> omega
     · rcases hG1.st with hz | hz
       · exact .inl hz
       · right
         refine ⟨?_, ?_⟩
         · rcases k3 with ⟨⟨_, h⟩, _⟩ | h <;> omega
         · rcases k5 with ⟨⟨_, h⟩, _⟩ | h <;> omega) (by omega)
   simp only [o_cont, o_pure, o_nil, POp.ev, Opd.ev, gv, setD, List.set, xsj, xel, extV, List.getElem?_toArray, xgz, xgs]
   refine s_reg ?_
   simp only [o_pure, o_eff, o_guard, gk_tt, o_nil, POp.ev, Opd.ev, EOp.ev, gv, setD, List.set, xsj, xel, pickV, e5]
   refine s_ret1 ?_
   simp +decide only [pfr, resV, resOne, resL, gv, xsj, xel, Option.bind_some, xms]
   refine ⟨⟨v5, es1 ++ es2, b5, rfl, ?_, hG5.lower (by have := hG5.low; omega) (fun c _ hc => hc)⟩, (hx.trans hx2).trans hx5⟩
   rw [List.map_append, de1, de2, ← partsL_cons]
def befB (k1 k2 : Nat) : List Int → List Int → Bool
 | x :: xs, y :: ys => if sgn3 (x * 2 ^ k2 - y * 2 ^ k1) = 0 then befB k1 k2 xs ys else decide (sgn3 (x * 2 ^ k2 - y * 2 ^ k1) < 0)
 | _, _ => false
theorem low_sign {x y N1 N2 : Int} {k1 k2 K1 K2 : Nat} (h1 : Low x k1 N1 K1) (h2 : Low y k2 N2 K2) : sgn3 (N1 * 2 ^ K2 - N2 * 2 ^ K1) = sgn3 (x * 2 ^ k2 - y * 2 ^ k1) := by
 obtain ⟨a1, _⟩ := h1
 obtain ⟨a2, _⟩ := h2
 have hc : (0 : Int) < 2 ^ k1 * 2 ^ k2 := Int.mul_pos (by have := pow_pos2 k1; omega) (by have := pow_pos2 k2; omega)
 have hd : (0 : Int) < 2 ^ K1 * 2 ^ K2 := Int.mul_pos (by have := pow_pos2 K1; omega) (by have := pow_pos2 K2; omega)
 rw [← sgn3_mul hc, ← sgn3_mul hd (x * 2 ^ k2 - y * 2 ^ k1)]
 congr 1
 have f1 : (2 : Int) ^ k1 * 2 ^ k2 * (N1 * 2 ^ K2) = 2 ^ K1 * 2 ^ K2 * (x * 2 ^ k2) := by
   have e1 : (2 : Int) ^ k1 * 2 ^ k2 * (N1 * 2 ^ K2) = N1 * 2 ^ k1 * (2 ^ k2 * 2 ^ K2) := by simp only [Int.mul_assoc, Int.mul_left_comm]
   rw [e1, ← a1]
   simp only [Int.mul_assoc, Int.mul_comm, Int.mul_left_comm]
 have f2 : (2 : Int) ^ k1 * 2 ^ k2 * (N2 * 2 ^ K1) = 2 ^ K1 * 2 ^ K2 * (y * 2 ^ k1) := by
   have e1 : (2 : Int) ^ k1 * 2 ^ k2 * (N2 * 2 ^ K1) = N2 * 2 ^ k2 * (2 ^ k1 * 2 ^ K1) := by simp only [Int.mul_assoc, Int.mul_left_comm]
   rw [e1, ← a2]
   simp only [Int.mul_assoc, Int.mul_comm, Int.mul_left_comm]
 rw [Int.mul_sub, Int.mul_sub, f1, f2]
theorem bxBefore_ok (lim : Nat) (v w : Value) (k1 k2 : Nat) (l1 h1 l2 h2 : List Int) (H : AHeap) (hl : lim ≤ H.next) (hv : BoxV H v k1 l1 h1) (hw : BoxV H w k2 l2 h2) (hlen : l2.length = l1.length) (hn : l1.length ≤ 900) (hk1 : k1 ≤ 24) (hk2 : k2 ≤ 24) (s1 : Sm l1) (s2 : Sm l2) :
   ACalls Tryz.prog lim n_spec_bxBefore [v, w] H fun v H' => v = .bool (befB k1 k2 l1 l2) ∧ Ext H H' := by
 obtain ⟨a1, b1, rfl, ha1, hb1⟩ := hv
 obtain ⟨a2, b2, rfl, ha2, hb2⟩ := hw
 refine is_spec_bxBefore.go rfl ?_
 unfold c_spec_bxBefore
 refine s_reg ?_
 simp only [o_pure, o_eff, o_nil, POp.ev, Opd.ev, EOp.ev, env0, gu, gv, setD, List.set, xms, xsj, xel, boxH, cellsV]
 have hx0 : Ext H ((H.alloc [.int .i64 (k1 : Int), a1, b1]).alloc [.int .i64 (k2 : Int), a2, b2]) := (Ext.alloc _ _).trans (Ext.alloc _ _)
 have hp1 : ((H.alloc [.int .i64 (k1 : Int), a1, b1]).alloc [.int .i64 (k2 : Int), a2, b2]).blk H.next = some [.int .i64 (k1 : Int), a1, b1] := by
   rw [alloc_old _ _ (Nat.lt_succ_self _)]
   exact alloc_new _ _
 have hp2 : ((H.alloc [.int .i64 (k1 : Int), a1, b1]).alloc [.int .i64 (k2 : Int), a2, b2]).blk (H.alloc [.int .i64 (k1 : Int), a1, b1]).next = some [.int .i64 (k2 : Int), a2, b2] := alloc_new _ _
 have hl1 : H.next < ((H.alloc [.int .i64 (k1 : Int), a1, b1]).alloc [.int .i64 (k2 : Int), a2, b2]).next := by simp only [alloc_next]; omega
 have hl2 : (H.alloc [.int .i64 (k1 : Int), a1, b1]).next < ((H.alloc [.int .i64 (k1 : Int), a1, b1]).alloc [.int .i64 (k2 : Int), a2, b2]).next := Nat.lt_succ_self _
 generalize (H.alloc [.int .i64 (k1 : Int), a1, b1]).alloc [.int .i64 (k2 : Int), a2, b2] = H1 at hx0 hp1 hp2 hl1 hl2 ⊢
 generalize (H.alloc [.int .i64 (k1 : Int), a1, b1]).next = r at hp2 hl2 ⊢
 have hnx := hx0.next
 have ha1' := SlI.ext ha1 hx0
 have ha2' := SlI.ext ha2 hx0
 generalize hq : H.next = q at *
 refine s_assoc (s_reg ?_)
 simp only [o_pure, o_nil, POp.ev, Opd.ev, gv, setD, List.set, xsj, xel, load1V, fadV, xgz, xgs, Nat.zero_add, cell_blk hp1, ha1'.lenV]
 refine s_block ?_
 refine s_loop1 (fun j e' H' => ∃ (i : Nat) (x5 x6 x7 : Value), i + j = l1.length ∧ befB k1 k2 l1 l2 = befB k1 k2 (l1.drop i) (l2.drop i) ∧ Ext H1 H' ∧ e' = [.agg #[.int .i64 (k1 : Int), a1, b1], .agg #[.int .i64 (k2 : Int), a2, b2], .pointer (some ⟨q, 0, none⟩), .pointer (some ⟨r, 0, none⟩), .bool false, x5, x6, x7, a1, .int .i64 l1.length, .int .i64 i]) l1.length ⟨0, _, _, _, by omega, rfl, Ext.refl _, rfl⟩ ?_
 rintro j e' H2 ⟨i, x5, x6, x7, hij, hall, hx2, rfl⟩
 have hn2 := hx2.next
 refine s_test ?_
 simp only [o_pure, o_nil, POp.ev, Opd.ev, gv, setD, xsj, xel, binV, ne_eq, xnt, if_false]
 refine Test.split (fun hlt => ?_) (fun hlt => ?_)
 · have hlt' : i < l1.length := by simpa using hlt
   have hlt2 : i < l2.length := by omega
   obtain ⟨c1, o1, u1, u2⟩ := ints_at (SlI.ext ha1' hx2) hlt'
   obtain ⟨c2, o2, y1, y2⟩ := ints_at (SlI.ext ha2' hx2) hlt2
   have g1 : l1.getD i 0 = l1[i] := by simp [hlt']
   have g2 : l2.getD i 0 = l2[i] := by simp [hlt2]
   rw [g1] at u2
   rw [g2] at y2
   have m1 := s1.get hlt'
   have m2 := s2.get hlt2
   rw [List.drop_eq_getElem_cons hlt', List.drop_eq_getElem_cons hlt2, befB] at hall
   have hp1' : H2.blk q = some [.int .i64 (k1 : Int), a1, b1] := by rw [hx2.blk _ hl1]; exact hp1
   have hp2' : H2.blk r = some [.int .i64 (k2 : Int), a2, b2] := by rw [hx2.blk _ hl2]; exact hp2
   refine s_skip1 ?_
   simp +decide only [pqn]
   refine s_block1 ?_
   refine s_reg ?_
   simp only [o_pure, o_nil, POp.ev, Opd.ev, gv, setD, List.set, xsj, xel, load1V, u1, u2]
   refine s_reg ?_
   simp only [o_pure, o_callN, POp.ev, Opd.ev, gv, setD, List.map, xsj, xel, load1V, fadV, xgz, xgs, Nat.zero_add, cell_blk hp1', cell_blk hp2', y1, y2]
   refine (bxNumber_ok _ l1[i] k1 H2 (Nat.le_refl _) hk1 (by omega)).use ?_
   rintro _ H3 ⟨⟨N1, K1, rfl, hL1⟩, hx3⟩ _
   have hn3 := hx3.next
   simp only [o_cont, o_callF, Opd.ev, gv, setD, List.map]
   refine (bxNumber_ok lim l2[i] k2 H3 (by omega) hk2 (by omega)).mono ?_
   rintro _ H4 ⟨⟨N2, K2, rfl, hL2⟩, hx4⟩
   have hn4 := hx4.next
   simp only [o_cont, o_callF, Opd.ev, gv, setD, List.map]
   refine (dyCmp_ok lim N1 N2 K1 K2 H4 (by omega) (by have := hL1.2.1; omega) (by have := hL2.2.1; omega) (by have := hL1.2.2; omega) (by have := hL2.2.2; omega)).mono ?_
   rw [low_sign hL1 hL2]
   rintro _ H5 ⟨rfl, hx5⟩
   have hx25 := (hx3.trans hx4).trans hx5
   simp only [o_cont, o_pure, o_nil, POp.ev, Opd.ev, gv, setD, List.set, xsj, xel]
   generalize sgn3 (l1[i] * 2 ^ k2 - l2[i] * 2 ^ k1) = sg0 at hall ⊢
   refine s_test1 ?_
   simp only [o_pure, o_nil, POp.ev, Opd.ev, gv, setD, xsj, xel, binV, ne_eq, xnt, if_false]
   refine Test.split (fun h => ?_) (fun h => ?_)
   · have h' : sg0 ≠ 0 := by simpa using h
     rw [if_neg h'] at hall
     refine s_reg ?_
     simp only [o_pure, o_nil, POp.ev, Opd.ev, gv, setD, List.set, xsj, xel, binV, ne_eq, xnt, if_false]
     refine s_ret1 ?_
     simp +decide only [pqr, pbr, pfr, resV, resOne, gv, xsj, xel]
     rw [hall]
     exact ⟨rfl, (hx0.trans hx2).trans hx25⟩
   · have h' : sg0 = 0 := by simpa using h
     rw [if_pos h'] at hall
     refine s_skip1 ?_
     simp +decide only [pqn, pbn]
     refine s_reg1 ?_
     simp only [o_pure, o_nil, POp.ev, Opd.ev, gv, setD, List.set, xsj, xel, binV, ne_eq, xnt, if_false, add1 (i := i) (by omega)]
     simp +decide only [pqn]
     exact Round.mk (j - 1) (by omega) ⟨i + 1, _, _, _, by omega, hall, hx2.trans hx25, rfl⟩
 · have hge : i = l1.length := by simp at hlt; omega
   subst hge
   refine s_exit1 ?_
   simp +decide only [pqn, pqe, pbe, reduceIte]
   refine s_reg ?_
   simp only [o_pure, o_nil, POp.ev, Opd.ev, setD, List.set, xsj, xel]
   refine s_ret1 ?_
   simp +decide only [pfr, resV, resOne, gv, xsj, xel]
   rw [List.drop_of_length_le (by omega), List.drop_of_length_le (by omega)] at hall
   rw [hall]
   exact ⟨rfl, hx0.trans hx2⟩
theorem befB_dl (k1 k2 : Nat) : ∀ l1 l2 : List Int, befB (k1 + 1) k2 (dbl l1) l2 = befB k1 k2 l1 l2
 | [], _ => rfl
 | x :: xs, [] => rfl
 | x :: xs, y :: ys => by
   rw [dbl_cons, befB, befB, befB_dl k1 k2 xs ys]
   have e : 2 * x * 2 ^ k2 - y * 2 ^ (k1 + 1) = 2 * (x * 2 ^ k2 - y * 2 ^ k1) := by
     rw [Int.pow_succ, Int.mul_comm (2 ^ k1) 2, Int.mul_left_comm y 2, Int.mul_assoc, Int.mul_sub]
   rw [e, sgn3_mul (by decide)]
theorem befB_dr (k1 k2 : Nat) : ∀ l1 l2 : List Int, befB k1 (k2 + 1) l1 (dbl l2) = befB k1 k2 l1 l2
 | [], _ => rfl
 | x :: xs, [] => rfl
 | x :: xs, y :: ys => by
   rw [dbl_cons, befB, befB, befB_dr k1 k2 xs ys]
   have e : x * 2 ^ (k2 + 1) - 2 * y * 2 ^ k1 = 2 * (x * 2 ^ k2 - y * 2 ^ k1) := by
     rw [Int.pow_succ, Int.mul_comm (2 ^ k2) 2, Int.mul_left_comm x 2, Int.mul_assoc 2 y, Int.mul_sub]
   rw [e, sgn3_mul (by decide)]
theorem befB_dN (k1 k2 : Nat) (l1 l2 : List Int) : ∀ i j : Nat, befB (k1 + i) (k2 + j) (dblN i l1) (dblN j l2) = befB k1 k2 l1 l2
 | 0, 0 => rfl
 | i + 1, j => by rw [dblN, ← Nat.add_assoc, befB_dl, befB_dN k1 k2 l1 l2 i j]
 | 0, j + 1 => by
   show befB (k1 + 0) ((k2 + j) + 1) (dblN 0 l1) (dbl (dblN j l2)) = _
   rw [befB_dr, befB_dN k1 k2 l1 l2 0 j]
theorem bef_lev {r T : Nat} {m : Int} : ∀ {av hs : List Int} {v w : List Nat}, rngB m av hs = true → hs.length = av.length → v.length = av.length → w.length = av.length → befB T T (lowR r av hs v) (lowR r av hs w) = lexB v w
 | [], _, v, w, _, _, h2, h3 => by
   rw [List.length_eq_zero_iff.1 h2, List.length_eq_zero_iff.1 h3]
   rfl
 | a :: av, [], _, _, _, h, _, _ => by simp at h
 | a :: av, h :: hs, [], _, _, _, h2, _ => by simp at h2
 | a :: av, h :: hs, i :: v, [], _, _, _, h3 => by simp at h3
 | a :: av, h :: hs, i :: v, j :: w, hr, h1, h2, h3 => by
   simp only [rngB, Bool.and_eq_true, decide_eq_true_eq] at hr
   obtain ⟨⟨⟨⟨a1, a2⟩, a3, a4⟩, a5⟩, a6⟩ := hr
   rw [lowR, lowR, befB, lexB, bef_lev a6 (by simpa using h1) (by simpa using h2) (by simpa using h3)]
   have hT : (0 : Int) < 2 ^ T := by have := pow_pos2 T; omega
   have e : (2 ^ r * a + i * (h - a)) * 2 ^ T - (2 ^ r * a + j * (h - a)) * 2 ^ T = 2 ^ T * ((h - a) * ((i : Int) - j)) := by
     rw [← Int.sub_mul, Int.mul_comm]
     congr 1
     have e5 : (h - a) * ((i : Int) - j) = i * (h - a) - j * (h - a) := by rw [Int.mul_sub, Int.mul_comm (h - a) i, Int.mul_comm (h - a) j]
     rw [e5]
     generalize (i : Int) * (h - a) = E
     generalize (j : Int) * (h - a) = F
     generalize (2 : Int) ^ r * a = A
     omega
   rw [e, sgn3_mul hT, sgn3_mul (show 0 < h - a by omega)]
   by_cases hij : i = j
   · subst hij
     simp [sgn3]
   · rw [if_neg hij]
     rcases Nat.lt_or_gt_of_ne hij with hlt | hlt
     · rw [sg3n (by omega), if_neg (by decide)]
       simp [hlt]
     · rw [sg3p (by omega), if_neg (by decide)]
       simp; omega
def boxI (K t : Nat) (L U : List Int) (v : List Nat) : Nat × List Int × List Int := normB (K + t) (lowR t L U v) (highR t L U v)
theorem bef_box {K t : Nat} {m : Int} {L U : List Int} {v w : List Nat} (hr : rngB m L U = true) (hl : U.length = L.length) (h2 : v.length = L.length) (h3 : w.length = L.length) : befB (boxI K t L U v).1 (boxI K t L U w).1 (boxI K t L U v).2.1 (boxI K t L U w).2.1 = lexB v w := by
 obtain ⟨i, e1, e2, _⟩ := normB_back (K + t) (lowR t L U v) (highR t L U v) (by rw [lowR_length _ _ _ _ hl h2, highR_length _ _ _ _ hl h2])
 obtain ⟨j, f1, f2, _⟩ := normB_back (K + t) (lowR t L U w) (highR t L U w) (by rw [lowR_length _ _ _ _ hl h3, highR_length _ _ _ _ hl h3])
 have := befB_dN (boxI K t L U v).1 (boxI K t L U w).1 (boxI K t L U v).2.1 (boxI K t L U w).2.1 i j
 unfold boxI at this ⊢
 rw [← e1, ← f1, ← e2, ← f2] at this
 rw [← this]
 exact bef_lev hr hl h2 h3
theorem idx_facts : ∀ n : Fin 4, ∀ r : Fin 3, (idxL n.val r.val).length ≤ 64 ∧ ∀ v ∈ idxL n.val r.val, v.length = n.val ∧ ∀ i ∈ v, i + 1 ≤ 2 ^ r.val := by decide +kernel
theorem grid_facts : ∀ n : Fin 4, ∀ t : Fin 3, (gridI (2 ^ t.val) n.val).length ≤ 64 ∧ ∀ v ∈ gridI (2 ^ t.val) n.val, v.length = n.val ∧ ∀ i ∈ v, i + 1 ≤ 2 ^ t.val := by decide +kernel
theorem lev_zero : ∀ (L U : List Int), U.length = L.length → lowR 0 L U (List.replicate L.length 0) = L ∧ highR 0 L U (List.replicate L.length 0) = U
 | [], U, h => by
   have e : U = [] := List.length_eq_zero_iff.1 (by simpa using h)
   subst e
   exact ⟨rfl, rfl⟩
 | a :: L, [], h => by simp at h
 | a :: L, b :: U, h => by
   obtain ⟨e1, e2⟩ := lev_zero L U (by simpa using h)
   rw [List.length_cons, List.replicate_succ, lowR, highR, e1, e2]
   constructor
   · congr 1
     simp
   · congr 1
     simp
     omega
theorem normB_self {k : Nat} {l h : List Int} (ho : k = 0 ∨ oddB l h = true) : normB k l h = (k, l, h) := by
 cases k with
 | zero => rfl
 | succ k => rw [normB, if_pos (ho.resolve_left (by omega))]
theorem box_good {K t n : Nat} {L U : List Int} {v : List Nat} (hL : L.length = n) (hU : U.length = n) (h1 : 1 ≤ n) (h3 : n ≤ 3) (hK : K + t ≤ 8) (hr : rngB (8 * 2 ^ K) L U = true) (hv : v.length = n) (hi : ∀ i ∈ v, i + 1 ≤ 2 ^ t) : goodB (boxI K t L U v).1 (boxI K t L U v).2.1 (boxI K t L U v).2.2 = true ∧ (boxI K t L U v).2.1.length = n := by
 have e1 := lowR_length t L U v (by omega) (by omega)
 have e2 := highR_length t L U v (by omega) (by omega)
 refine ⟨norm_good (by omega) (by omega) (by omega) hK ?_, ?_⟩
 · rw [m_pow]
   exact lev_rng hr hi
 · have := (normB_len (K + t) (lowR t L U v) (highR t L U v) (by omega)).1
   unfold boxI
   omega
theorem slb_take {H : AHeap} {v : Value} {es : List BX} (h : Sl H v es.length 3 (bxs es)) {k : Nat} (hk : k ≤ es.length) : ∃ w, slcV 3 v none (some (.int .i64 k)) none = some w ∧ Sl H w (es.take k).length 3 (bxs (es.take k)) := by
 obtain ⟨w, h1, h2⟩ := h.slc (lo := none) (hi := some (.int .i64 k)) (i := 0) (j := k) (by omega) hk (.inl ⟨rfl, rfl⟩) (.inr ⟨_, rfl⟩)
 rw [Nat.zero_mul, List.drop_zero, Nat.sub_zero, bxs_take] at h2
 exact ⟨w, h1, by rw [List.length_take, Nat.min_eq_left hk]; exact h2⟩
theorem slb_drop {H : AHeap} {v : Value} {es : List BX} (h : Sl H v es.length 3 (bxs es)) {k : Nat} (hk : k ≤ es.length) : ∃ w, slcV 3 v (some (.int .i64 k)) none none = some w ∧ Sl H w (es.drop k).length 3 (bxs (es.drop k)) := by
 obtain ⟨w, h1, h2⟩ := h.slc (lo := some (.int .i64 k)) (hi := none) (i := k) (j := es.length) hk (Nat.le_refl _) (.inr ⟨_, rfl⟩) (.inl ⟨rfl, rfl⟩)
 rw [bxs_drop, List.take_of_length_le (by rw [bxs_length, List.length_drop]; exact Nat.le_refl _)] at h2
 exact ⟨w, h1, by rw [List.length_drop]; exact h2⟩
theorem ins_fin {lim lo : Nat} {P : Nat → Prop} {Hs G Hb : AHeap} {b1 c d : Nat} {acc lit w2 : Value} {es : List BX} {x : BX} {k : Nat} (hlim : lim ≤ lo) (hlo : Hs.next ≤ lo) (hloG : lo ≤ G.next) (hxs : Ext Hs G) (hacc : GrowB Hb lo P b1 acc (es.take k)) (hb1 : G.next ≤ b1) (hlit : Sl Hb lit 1 3 (bxs [x])) (hx : Ext G Hb)
   (hc : VecI G c x.s x.lo) (hd : VecI G d x.t x.hi) (c1 : P c) (c2 : c < G.next) (d1 : P d) (d2 : d < G.next)
   (hw2 : Sl G w2 (es.drop k).length 3 (bxs (es.drop k))) (hel : ∀ y ∈ es, ∃ c d, VecI G c y.s y.lo ∧ VecI G d y.t y.hi ∧ P c ∧ c < G.next ∧ P d ∧ d < G.next) (hn : es.length ≤ 1000) :
   ∃ acc2 H2 acc3 H3 b3, appendH lim Hb 3 56 acc lit = some (acc2, H2) ∧ appendH lim H2 3 56 acc2 w2 = some (acc3, H3) ∧ GrowB H3 lo P b3 acc3 (es.take k ++ x :: es.drop k) ∧ Ext G H3 := by
 have hnb := hx.next
 obtain ⟨acc2, H2, b2, e1, g1, x1, k1, n1, m1⟩ := hacc.appendX (lim := lim) (H0 := Hs) hlim (hxs.trans hx) hlo (by omega) (Ext.refl Hb) (w := lit) (es2 := [x]) hlit (fun y hy => by
   rw [List.mem_singleton] at hy
   subst hy
   exact ⟨c, d, Vec.ext hc hx, Vec.ext hd hx, c1, by omega, d1, by omega, .inr ⟨by omega, by omega⟩⟩) (by simp; omega)
 have hxG2 : Ext G H2 := ⟨by omega, fun b hb => by rw [k1 b (by omega) (.inr (by omega)), hx.blk b hb]⟩
 obtain ⟨acc3, H3, b3, e2, g2, x2, k2, n2, m2⟩ := g1.appendX (lim := lim) (H0 := Hs) hlim x1 hlo (by omega) (Ext.refl H2) (w := w2) (es2 := es.drop k) (hw2.keep (Keep.of_ext hxG2 (Nat.le_refl _)) (Nat.le_refl _)) (fun y hy => by
   obtain ⟨c, d, p1, p2, p3, p4, p5, p6⟩ := hel y (List.mem_of_mem_drop hy)
   exact ⟨c, d, Vec.ext p1 hxG2, Vec.ext p2 hxG2, p3, by omega, p5, by omega, .inr ⟨by omega, by omega⟩⟩) (by simp; omega)
 refine ⟨acc2, H2, acc3, H3, b3, e1, e2, ?_, ⟨by omega, fun b hb => by rw [k2 b (by omega) (.inr (by omega)), hxG2.blk b hb]⟩⟩
 simpa using g2
theorem ins_all {lim lo : Nat} {P : Nat → Prop} {Hs G : AHeap} {c d : Nat} {w1 w2 : Value} {es : List BX} {x : BX} {k : Nat} (hlim : lim ≤ lo) (hlo : Hs.next ≤ lo) (hloG : lo ≤ G.next) (hxs : Ext Hs G)
   (hc : VecI G c x.s x.lo) (hd : VecI G d x.t x.hi) (c1 : P c) (c2 : c < G.next) (d1 : P d) (d2 : d < G.next)
   (hw1 : Sl G w1 (es.take k).length 3 (bxs (es.take k))) (hw2 : Sl G w2 (es.drop k).length 3 (bxs (es.drop k))) (hel : ∀ y ∈ es, ∃ c d, VecI G c y.s y.lo ∧ VecI G d y.t y.hi ∧ P c ∧ c < G.next ∧ P d ∧ d < G.next) (hn : es.length ≤ 1000) :
   (∃ a1 Hb a2 H2 a3 H3 b3, appendH lim (G.alloc []) 3 56 (.slice (some ⟨G.next, 0, some 0⟩) 0 0) w1 = some (a1, Hb) ∧ appendH lim (Hb.alloc (bxc x)) 3 56 a1 (.slice (some ⟨Hb.next, 0, some 0⟩) 1 1) = some (a2, H2) ∧ appendH lim H2 3 56 a2 w2 = some (a3, H3) ∧ GrowB H3 lo P b3 a3 (es.take k ++ x :: es.drop k) ∧ Ext G H3 ∧ Ext G Hb) ∧
   (∃ a1 Hb a2 H2 a3 H3 b3, appendH lim ((G.alloc []).alloc (bxc x)) 3 56 (.slice (some ⟨G.next, 0, some 0⟩) 0 0) w1 = some (a1, Hb) ∧ appendH lim Hb 3 56 a1 (.slice (some ⟨(G.alloc []).next, 0, some 0⟩) 1 1) = some (a2, H2) ∧ appendH lim H2 3 56 a2 w2 = some (a3, H3) ∧ GrowB H3 lo P b3 a3 (es.take k ++ x :: es.drop k) ∧ Ext G H3) ∧
   (∃ a1 Hb a2 H2 a3 H3 b3, appendH lim ((G.alloc (bxc x)).alloc []) 3 56 (.slice (some ⟨(G.alloc (bxc x)).next, 0, some 0⟩) 0 0) w1 = some (a1, Hb) ∧ appendH lim Hb 3 56 a1 (.slice (some ⟨G.next, 0, some 0⟩) 1 1) = some (a2, H2) ∧ appendH lim H2 3 56 a2 w2 = some (a3, H3) ∧ GrowB H3 lo P b3 a3 (es.take k ++ x :: es.drop k) ∧ Ext G H3) := by
 have first : ∀ (Ga Hb : AHeap) (β : Nat), Ext G Ga → Ext Ga Hb → Vec Ga β (.slice (some ⟨β, 0, some 0⟩) 0 0) 0 3 (bxs []) → G.next ≤ β → β < Ga.next → ∃ a1 Hc b1, appendH lim Hb 3 56 (.slice (some ⟨β, 0, some 0⟩) 0 0) w1 = some (a1, Hc) ∧ GrowB Hc lo P b1 a1 (es.take k) ∧ Ext G Hc ∧ G.next ≤ b1 ∧ Hb.next ≤ Hc.next ∧ ∀ z, z < Hb.next → z ≠ β → Hc.blk z = Hb.blk z := by
   intro Ga Hb β hxa hxb hv hβ hβ2
   have hna := hxa.next
   have hnb := hxb.next
   have g0 : GrowB Ga lo P β (.slice (some ⟨β, 0, some 0⟩) 0 0) [] := ⟨hv, by omega, .inr hβ2, by simp⟩
   have hxG := hxa.trans hxb
   obtain ⟨a1, Hc, b1, e1, g1, x1, k1, n1, m1⟩ := g0.appendX (lim := lim) (H0 := Hs) hlim (hxs.trans hxa) hlo (by omega) hxb (w := w1) (es2 := es.take k) (hw1.keep (Keep.of_ext hxG (Nat.le_refl _)) (Nat.le_refl _)) (fun y hy => by
     obtain ⟨c, d, p1, p2, p3, p4, p5, p6⟩ := hel y (List.mem_of_mem_take hy)
     exact ⟨c, d, Vec.ext p1 hxG, Vec.ext p2 hxG, p3, by omega, p5, by omega, .inr ⟨by omega, by omega⟩⟩) (by simp; omega)
   rw [List.nil_append] at g1
   exact ⟨a1, Hc, b1, e1, g1, ⟨by omega, fun b hb => by rw [k1 b (by omega) (.inr (by omega)), hxG.blk b hb]⟩, by omega, n1, fun z hz hzb => k1 z hz (.inr hzb)⟩
 have hxa := Ext.alloc G ([] : List Value)
 have hxl := Ext.alloc G (bxc x)
 have lit : ∀ Hq : AHeap, Vec (Hq.alloc (bxc x)) Hq.next (.slice (some ⟨Hq.next, 0, some 0⟩) 1 1) 1 3 (bxs [x]) := fun Hq => by
   rw [bxs_one]
   exact Vec.lit rfl
 have nil0 : ∀ Hq : AHeap, Vec (Hq.alloc []) Hq.next (.slice (some ⟨Hq.next, 0, some 0⟩) 0 0) 0 3 (bxs []) := fun Hq => Vec.lit rfl
 refine ⟨?_, ?_, ?_⟩
 · obtain ⟨a1, Hb, b1, e1, g1, x1, m1, _, _⟩ := first (G.alloc []) (G.alloc []) G.next hxa (Ext.refl _) (nil0 G) (Nat.le_refl _) (Nat.lt_succ_self _)
   have hy := Ext.alloc Hb (bxc x)
   obtain ⟨a2, H2, a3, H3, b3, f1, f2, f3, f4⟩ := ins_fin (lim := lim) (lit := .slice (some ⟨Hb.next, 0, some 0⟩) 1 1) hlim hlo hloG hxs (g1.ext hy) m1 (Vec.sl (lit Hb)) (x1.trans hy) hc hd c1 c2 d1 d2 hw2 hel hn
   exact ⟨a1, Hb, a2, H2, a3, H3, b3, e1, f1, f2, f3, f4, x1⟩
 · have hy := Ext.alloc (G.alloc []) (bxc x)
   obtain ⟨a1, Hb, b1, e1, g1, x1, m1, n1, k1⟩ := first (G.alloc []) ((G.alloc []).alloc (bxc x)) G.next hxa hy (nil0 G) (Nat.le_refl _) (Nat.lt_succ_self _)
   obtain ⟨a2, H2, a3, H3, b3, f1, f2, f3, f4⟩ := ins_fin (lim := lim) (lit := .slice (some ⟨(G.alloc []).next, 0, some 0⟩) 1 1) hlim hlo hloG hxs g1 m1 (Vec.sl (Vec.keep (lit (G.alloc [])) n1 (fun hlt => k1 _ hlt (by simp only [alloc_next]; omega)))) x1 hc hd c1 c2 d1 d2 hw2 hel hn
   exact ⟨a1, Hb, a2, H2, a3, H3, b3, e1, f1, f2, f3, f4⟩
 · have hy := Ext.alloc (G.alloc (bxc x)) ([] : List Value)
   obtain ⟨a1, Hb, b1, e1, g1, x1, m1, n1, k1⟩ := first ((G.alloc (bxc x)).alloc []) ((G.alloc (bxc x)).alloc []) (G.alloc (bxc x)).next (hxl.trans hy) (Ext.refl _) (nil0 _) (by simp only [alloc_next]; omega) (Nat.lt_succ_self _)
   obtain ⟨a2, H2, a3, H3, b3, f1, f2, f3, f4⟩ := ins_fin (lim := lim) (lit := .slice (some ⟨G.next, 0, some 0⟩) 1 1) hlim hlo hloG hxs g1 m1 (Vec.sl (Vec.keep (Vec.ext (lit G) hy) n1 (fun hlt => k1 _ hlt (by simp only [alloc_next]; omega)))) x1 hc hd c1 c2 d1 d2 hw2 hel hn
   exact ⟨a1, Hb, a2, H2, a3, H3, b3, e1, f1, f2, f3, f4⟩
end Go.Proofs.YtagocdkcnajiiaaGreat
