/- More moves: cuts, what a call leaves, single cells. -/
import Derived.Test.YtldpdjpchcoigaaGreatAbStep
namespace Go.Ab
set_option linter.unusedVariables false
set_option linter.unusedSimpArgs false
section
variable {P : Program} {lim : Nat} {Q : Post} {e : List Value} {H : AHeap} {a b c : ACode} {ops : List AOper}

theorem awpOps.mono {K K' : List Value → List Value → AHeap → Prop} (hk : ∀ e t H, K e t H → K' e t H) : ∀ {ops : List AOper} {e t : List Value} {H : AHeap}, awpOps P lim ops K e t H → awpOps P lim ops K' e t H
  | [], e, t, H, h => hk e t H h
  | o :: l, e, t, H, ⟨g, hg, h⟩ => by
    refine ⟨g, hg, ?_⟩
    cases g with
    | false => simp only [Bool.false_eq_true, if_false] at h ⊢; exact awpOps.mono hk h
    | true =>
      simp only [if_true] at h ⊢
      cases ho : o.op with
      | pure p => rw [ho] at h; obtain ⟨v, h1, h2⟩ := h; exact ⟨v, h1, awpOps.mono hk h2⟩
      | eff x => rw [ho] at h; obtain ⟨v, H', h1, h2⟩ := h; exact ⟨v, H', h1, awpOps.mono hk h2⟩
      | call nw f as => rw [ho] at h; obtain ⟨v, cs, h1, h2⟩ := h; exact ⟨v, cs, h1, h2.mono fun v H' h => awpOps.mono hk h⟩

/-- a test of which the outcome and the state behind it are told first -/
theorem s_test_cut (g : Bool) (e1 : List Value) (H1 : AHeap) {o : Opd} {x y : ACode} (h : awpOps P lim ops (fun e' t' H' => o.ev e' t' = .bool g ∧ e' = e1 ∧ H' = H1) e [] H)
    (h1 : g = true → awp P lim x (Post.seq (fun e' H' => awp P lim b Q e' H') Q) e1 H1) (h2 : g = false → awp P lim y (Post.seq (fun e' H' => awp P lim b Q e' H') Q) e1 H1) : awp P lim (.seq (.test ops o x y) b) Q e H := by
  refine s_test (awpOps.mono ?_ h)
  rintro e' t' H' ⟨h3, rfl, rfl⟩
  rw [h3]
  exact Test.split h1 h2
theorem s_test1_cut (g : Bool) (e1 : List Value) (H1 : AHeap) {o : Opd} {x y : ACode} (h : awpOps P lim ops (fun e' t' H' => o.ev e' t' = .bool g ∧ e' = e1 ∧ H' = H1) e [] H)
    (h1 : g = true → awp P lim x Q e1 H1) (h2 : g = false → awp P lim y Q e1 H1) : awp P lim (.test ops o x y) Q e H := by
  refine s_test1 (awpOps.mono ?_ h)
  rintro e' t' H' ⟨h3, rfl, rfl⟩
  rw [h3]
  exact Test.split h1 h2
/-- a test that turns no variable -/
theorem s_test_I (g : Bool) (I : AHeap → Prop) {o : Opd} {x y : ACode} (h : awpOps P lim ops (fun e' t' H' => o.ev e' t' = .bool g ∧ e' = e ∧ I H') e [] H)
    (h1 : ∀ H', I H' → g = true → awp P lim x (Post.seq (fun e' H' => awp P lim b Q e' H') Q) e H') (h2 : ∀ H', I H' → g = false → awp P lim y (Post.seq (fun e' H' => awp P lim b Q e' H') Q) e H') : awp P lim (.seq (.test ops o x y) b) Q e H := by
  refine s_test (awpOps.mono ?_ h)
  rintro e' t' H' ⟨h3, rfl, h4⟩
  rw [h3]
  exact Test.split (h1 H' h4) (h2 H' h4)
/-- a test that turns nothing -/
theorem s_test_same (g : Bool) {o : Opd} {x y : ACode} (h : awpOps P lim ops (fun e' t' H' => o.ev e' t' = .bool g ∧ e' = e ∧ H' = H) e [] H)
    (h1 : g = true → awp P lim x (Post.seq (fun e' H' => awp P lim b Q e' H') Q) e H) (h2 : g = false → awp P lim y (Post.seq (fun e' H' => awp P lim b Q e' H') Q) e H) : awp P lim (.seq (.test ops o x y) b) Q e H := s_test_cut g e H h h1 h2
theorem s_test1_same (g : Bool) {o : Opd} {x y : ACode} (h : awpOps P lim ops (fun e' t' H' => o.ev e' t' = .bool g ∧ e' = e ∧ H' = H) e [] H)
    (h1 : g = true → awp P lim x Q e H) (h2 : g = false → awp P lim y Q e H) : awp P lim (.test ops o x y) Q e H := s_test1_cut g e H h h1 h2
theorem awpT.mono {K K' : List Value → List Value → AHeap → Prop} (hk : ∀ e t H, K e t H → K' e t H) : ∀ {T : ATree} {e t : List Value} {H : AHeap}, awpT P lim T K e t H → awpT P lim T K' e t H
  | .nil, e, t, H, h => hk _ _ _ h
  | .op i o k, e, t, H, h => by
    rw [t_op] at h ⊢
    exact awpOps.mono (fun _ _ _ h => awpT.mono hk h) h
  | .alt x y, e, t, H, h => ⟨awpT.mono hk h.1, awpT.mono hk h.2⟩
/-- a region in any order: the state behind it is told first -/
theorem s_regT_cut (I : List Value → AHeap → Prop) {T : ATree} (h : awpT P lim T (fun e' _ H' => I e' H') e [] H) (h1 : ∀ e' H', I e' H' → awp P lim b Q e' H') : awp P lim (.seq (.regT T) b) Q e H :=
  s_regT (awpT.mono (fun e' _ H' => h1 e' H') h)
/-- a call that answers one value and turns nothing -/
theorem ACalls.eq {f : FuncId} {args : List Value} {v : Value} {R : Value → AHeap → Prop} (h : ACalls P lim f args H (fun u H' => u = v ∧ H' = H)) (hk : R v H) : ACalls P lim f args H R :=
  h.mono fun u H' ⟨h1, h2⟩ => by rw [h1, h2]; exact hk
/-- what lies below the bound stays -/
theorem ACalls.low {f : FuncId} {args : List Value} {R : Value → AHeap → Prop} (h : ACalls P lim f args H R) : ACalls P lim f args H fun v H' => R v H' ∧ Keep lim H H' := by
  rcases h with h | h
  · refine .inl ⟨h.1, fun β w args' hw hv => (h.2 β w args' hw hv).mono ?_⟩
    intro e w' ⟨v, v', H', β', h1, h2, h3, h4, h5⟩
    exact ⟨v, v', H', β', h1, ⟨h2, h5.next, h5.low⟩, h3, h4, h5⟩
  · exact .inr (h.mono fun v h => ⟨h, Keep.refl _ _⟩)

theorem alloc_put (H : AHeap) (a b : List Value) : (H.alloc a).put H.next b = H.alloc b := by
  unfold AHeap.alloc AHeap.put
  congr 1
  funext b'
  by_cases h : b' = H.next <;> simp [h]
theorem iad_cell {b o n c i : Nat} {sp : Option Nat} (k : IntKind) (h : i < n) : iadV 1 (.slice (some ⟨b, o, sp⟩) n c) (.int k i) = some (.pointer (some ⟨b, o + i, none⟩)) := by
  simp [iadV, h]
theorem store_cell {b o : Nat} {cs : List Value} {x : Value} (hx : cellsV x = some [x]) (hl : lim ≤ b) (hb : H.blk b = some cs) (ho : o < cs.length) :
    storeH lim H 1 (.pointer (some ⟨b, o, none⟩)) x = some (undef, H.put b (cs.set o x)) := by
  simp only [storeH, hx, Option.bind_some, List.length_cons, List.length_nil, hl, hb, Nat.zero_add, and_self, if_true]
  rw [if_pos (by omega), putL_cons ho, putL_nil]
theorem store_int {b o : Nat} {cs : List Value} (k : IntKind) (x : Int) (hl : lim ≤ b) (hb : H.blk b = some cs) (ho : o < cs.length) :
    storeH lim H 1 (.pointer (some ⟨b, o, none⟩)) (.int k x) = some (undef, H.put b (cs.set o (.int k x))) := store_cell rfl hl hb ho
theorem zerosL_one (n : Nat) (z : Value) : zerosL n [z] = List.replicate n z := by
  induction n with
  | zero => rfl
  | succ n ih => simp [zerosL, ih, List.replicate_succ]
theorem mkslice_int (bytes n m : Nat) (zero : List Value) (h : n ≤ m) (hm : m ≤ 140737488355328) (hb : m * bytes ≤ 140737488355328) :
    mksliceH H bytes zero (.int .i64 n) (.int .i64 m) = some (.slice (some ⟨H.next, 0, some 0⟩) n m, H.alloc (zerosL m zero)) := by
  have h4 : (m : Int) * bytes ≤ 140737488355328 := by rw [← Int.natCast_mul]; omega
  exact if_pos (⟨by omega, by omega, by omega, h4⟩ : (0 : Int) ≤ n ∧ (n : Int) ≤ m ∧ (m : Int) ≤ 140737488355328 ∧ (m : Int) * bytes ≤ 140737488355328)
theorem fill_set {A : List Value} {i m : Nat} {z x : Value} (h : A[i]? = some x) (hm : A.length = m) : (A.take i ++ List.replicate (m - i) z).set i x = A.take (i + 1) ++ List.replicate (m - (i + 1)) z := by
  have hi : i < A.length := (List.getElem?_eq_some_iff.1 h).1
  have e1 : m - i = (m - (i + 1)) + 1 := by omega
  rw [e1, List.replicate_succ, List.set_append_right _ _ (by simp; omega)]
  have e2 : i - (A.take i).length = 0 := by simp; omega
  rw [e2, List.set_cons_zero, List.take_add_one, h]
  simp
theorem fill_all {A : List Value} {m : Nat} {z : Value} (hm : A.length = m) : A.take m ++ List.replicate (m - m) z = A := by simp [← hm]
theorem add1 {i : Nat} (h : i < 9000000000000000000) : IntKind.i64.wrap ((i : Int) + 1) = ((i + 1 : Nat) : Int) := by
  rw [wrap_small (by omega) (by omega)]; rfl
theorem addN {i j : Nat} (h : i + j < 9000000000000000000) : IntKind.i64.wrap ((i : Int) + j) = ((i + j : Nat) : Int) := by
  rw [wrap_small (by omega) (by omega)]; rfl
theorem slc_to {b o m cap n sz : Nat} (k : IntKind) (h : n ≤ cap) : slcV sz (.slice (some ⟨b, o, some 0⟩) m cap) none (some (.int k n)) none = some (.slice (some ⟨b, o, some 0⟩) n cap) := by
  simp [slcV, bounds, sliceB, intV, h]
theorem two_pow {n m : Nat} (h : n ≤ m) : 1 ≤ (2 : Int) ^ n ∧ (2 : Int) ^ n ≤ 2 ^ m := by
  have e : ∀ k : Nat, (2 : Int) ^ k = ((2 ^ k : Nat) : Int) := fun k => by simp
  have h1 : 2 ^ n ≤ 2 ^ m := Nat.pow_le_pow_right (by decide) h
  have h2 : 1 ≤ 2 ^ n := Nat.one_le_two_pow
  rw [e, e]
  exact ⟨by exact_mod_cast h2, by exact_mod_cast h1⟩
theorem nat_eq0 (n : Nat) : ((n : Int) == 0) = decide (n = 0) := by cases n <;> rfl
end
end Go.Ab
