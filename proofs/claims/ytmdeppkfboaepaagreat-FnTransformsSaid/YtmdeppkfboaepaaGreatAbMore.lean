/- More moves: cuts, what a call leaves, single cells. -/
import Derived.Test.YtmdeppkfboaepaaGreatAbStep
namespace Go.Ab
set_option linter.unusedVariables false
set_option linter.unusedSimpArgs false
section
variable {P : Program} {lim : Nat} {Q : Post} {e : List Value} {H : AHeap} {a b c : ACode} {ops : List AOper}
theorem awpOps.mono {K K' : List Value → List Value → AHeap → Prop} (hk : ∀ e t H, K e t H → K' e t H) : ∀ {ops : List AOper} {e t : List Value} {H : AHeap}, awpOps P lim ops K e t H → awpOps P lim ops K' e t H
 | [], e, t, H, h => hk e t H h
 | o :: l, e, t, H, ⟨g, hg, h⟩ => by
   refine ⟨g, hg, ?_⟩
   cases g with
   | false => simp only [Bool.false_eq_true, if_false] at h ⊢; exact awpOps.mono hk h
   | true =>
     simp only [if_true] at h ⊢
     cases ho : o.op with
     | pure p => rw [ho] at h; obtain ⟨v, h1, h2⟩ := h; exact ⟨v, h1, awpOps.mono hk h2⟩
     | eff x => rw [ho] at h; obtain ⟨v, H', h1, h2⟩ := h; exact ⟨v, H', h1, awpOps.mono hk h2⟩
     | call nw f as => rw [ho] at h; obtain ⟨v, cs, h1, h2⟩ := h; exact ⟨v, cs, h1, h2.mono fun v H' h => awpOps.mono hk h⟩
theorem s_test_cut (g : Bool) (e1 : List Value) (H1 : AHeap) {o : Opd} {x y : ACode} (h : awpOps P lim ops (fun e' t' H' => o.ev e' t' = .bool g ∧ e' = e1 ∧ H' = H1) e [] H)
   (h1 : g = true → awp P lim x (Post.seq (fun e' H' => awp P lim b Q e' H') Q) e1 H1) (h2 : g = false → awp P lim y (Post.seq (fun e' H' => awp P lim b Q e' H') Q) e1 H1) : awp P lim (.seq (.test ops o x y) b) Q e H := by
 refine s_test (awpOps.mono ?_ h)
 rintro e' t' H' ⟨h3, rfl, rfl⟩
 rw [h3]
 exact Test.split h1 h2
theorem s_test1_cut (g : Bool) (e1 : List Value) (H1 : AHeap) {o : Opd} {x y : ACode} (h : awpOps P lim ops (fun e' t' H' => o.ev e' t' = .bool g ∧ e' = e1 ∧ H' = H1) e [] H)
   (h1 : g = true → awp P lim x Q e1 H1) (h2 : g = false → awp P lim y Q e1 H1) : awp P lim (.test ops o x y) Q e H := by
 refine s_test1 (awpOps.mono ?_ h)
 rintro e' t' H' ⟨h3, rfl, rfl⟩
 rw [h3]
 exact Test.split h1 h2
theorem s_test_I (g : Bool) (I : AHeap → Prop) {o : Opd} {x y : ACode} (h : awpOps P lim ops (fun e' t' H' => o.ev e' t' = .bool g ∧ e' = e ∧ I H') e [] H)
   (h1 : ∀ H', I H' → g = true → awp P lim x (Post.seq (fun e' H' => awp P lim b Q e' H') Q) e H') (h2 : ∀ H', I H' → g = false → awp P lim y (Post.seq (fun e' H' => awp P lim b Q e' H') Q) e H') : awp P lim (.seq (.test ops o x y) b) Q e H := by
 refine s_test (awpOps.mono ?_ h)
 rintro e' t' H' ⟨h3, rfl, h4⟩
 rw [h3]
 exact Test.split (h1 H' h4) (h2 H' h4)
theorem s_test_same (g : Bool) {o : Opd} {x y : ACode} (h : awpOps P lim ops (fun e' t' H' => o.ev e' t' = .bool g ∧ e' = e ∧ H' = H) e [] H)
   (h1 : g = true → awp P lim x (Post.seq (fun e' H' => awp P lim b Q e' H') Q) e H) (h2 : g = false → awp P lim y (Post.seq (fun e' H' => awp P lim b Q e' H') Q) e H) : awp P lim (.seq (.test ops o x y) b) Q e H := s_test_cut g e H h h1 h2
theorem s_test1_same (g : Bool) {o : Opd} {x y : ACode} (h : awpOps P lim ops (fun e' t' H' => o.ev e' t' = .bool g ∧ e' = e ∧ H' = H) e [] H)
   (h1 : g = true → awp P lim x Q e H) (h2 : g = false → awp P lim y Q e H) : awp P lim (.test ops o x y) Q e H := s_test1_cut g e H h h1 h2
theorem awpT.mono {K K' : List Value → List Value → AHeap → Prop} (hk : ∀ e t H, K e t H → K' e t H) : ∀ {T : ATree} {e t : List Value} {H : AHeap}, awpT P lim T K e t H → awpT P lim T K' e t H
 | .nil, e, t, H, h => hk _ _ _ h
 | .op i o k, e, t, H, h => by
   rw [t_op] at h ⊢
   exact awpOps.mono (fun _ _ _ h => awpT.mono hk h) h
 | .alt x y, e, t, H, h => ⟨awpT.mono hk h.1, awpT.mono hk h.2⟩
theorem s_regT_cut (I : List Value → AHeap → Prop) {T : ATree} (h : awpT P lim T (fun e' _ H' => I e' H') e [] H) (h1 : ∀ e' H', I e' H' → awp P lim b Q e' H') : awp P lim (.seq (.regT T) b) Q e H :=
 s_regT (awpT.mono (fun e' _ H' => h1 e' H') h)
theorem ACalls.eq {f : FuncId} {args : List Value} {v : Value} {R : Value → AHeap → Prop} (h : ACalls P lim f args H (fun u H' => u = v ∧ H' = H)) (hk : R v H) : ACalls P lim f args H R :=
 h.mono fun u H' ⟨h1, h2⟩ => by rw [h1, h2]; exact hk
theorem ACalls.low {f : FuncId} {args : List Value} {R : Value → AHeap → Prop} (h : ACalls P lim f args H R) : ACalls P lim f args H fun v H' => R v H' ∧ Keep lim H H' := by
 rcases h with h | h
 · refine .inl ⟨h.1, fun β w args' hw hv => (h.2 β w args' hw hv).mono ?_⟩
   intro e w' ⟨v, v', H', β', h1, h2, h3, h4, h5⟩
   exact ⟨v, v', H', β', h1, ⟨h2, h5.next, h5.low⟩, h3, h4, h5⟩
 · exact .inr (h.mono fun v h => ⟨h, Keep.refl _ _⟩)
theorem alloc_put (H : AHeap) (a b : List Value) : (H.alloc a).put H.next b = H.alloc b := by
 unfold AHeap.alloc AHeap.put
 congr 1
 funext b'
 by_cases h : b' = H.next <;> simp [h]
theorem store_cell {b o : Nat} {cs : List Value} {x : Value} (hx : cellsV x = some [x]) (hl : lim ≤ b) (hb : H.blk b = some cs) (ho : o < cs.length) :
   storeH lim H 1 (.pointer (some ⟨b, o, none⟩)) x = some (undef, H.put b (cs.set o x)) := by
 simp only [storeH, hx, Option.bind_some, List.length_cons, List.length_nil, hl, hb, Nat.zero_add, and_self, if_true]
 rw [if_pos (by omega), putL_cons ho, putL_nil]
theorem store_int {b o : Nat} {cs : List Value} (k : IntKind) (x : Int) (hl : lim ≤ b) (hb : H.blk b = some cs) (ho : o < cs.length) :
   storeH lim H 1 (.pointer (some ⟨b, o, none⟩)) (.int k x) = some (undef, H.put b (cs.set o (.int k x))) := store_cell rfl hl hb ho
theorem add1 {i : Nat} (h : i < 9000000000000000000) : IntKind.i64.wrap ((i : Int) + 1) = ((i + 1 : Nat) : Int) := by
 rw [wrap_small (by omega) (by omega)]; rfl
theorem addN {i j : Nat} (h : i + j < 9000000000000000000) : IntKind.i64.wrap ((i : Int) + j) = ((i + j : Nat) : Int) := by
 rw [wrap_small (by omega) (by omega)]; rfl
theorem two_pow {n m : Nat} (h : n ≤ m) : 1 ≤ (2 : Int) ^ n ∧ (2 : Int) ^ n ≤ 2 ^ m := by
 have e : ∀ k : Nat, (2 : Int) ^ k = ((2 ^ k : Nat) : Int) := fun k => by simp
 have h1 : 2 ^ n ≤ 2 ^ m := Nat.pow_le_pow_right (by decide) h
 have h2 : 1 ≤ 2 ^ n := Nat.one_le_two_pow
 rw [e, e]
 exact ⟨by exact_mod_cast h2, by exact_mod_cast h1⟩
end
end Go.Ab
