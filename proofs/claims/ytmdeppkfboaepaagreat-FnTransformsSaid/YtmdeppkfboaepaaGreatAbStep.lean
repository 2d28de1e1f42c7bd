/- The moves of a proof over the small code: one piece at a time, what follows stays closed. -/
import Derived.Test.YtmdeppkfboaepaaGreatAbUse
namespace Go.Ab
set_option linter.unusedVariables false
set_option linter.unusedSimpArgs false
section
variable {P : Program} {lim : Nat} {Q : Post} {e : List Value} {H : AHeap} {a b c : ACode} {ops : List AOper}
theorem s_reg (h : awpOps P lim ops (fun e' _ H' => awp P lim b Q e' H') e [] H) : awp P lim (.seq (.reg ops) b) Q e H := h
theorem s_reg1 (h : awpOps P lim ops (fun e' _ H' => Q .normal e' H') e [] H) : awp P lim (.reg ops) Q e H := h
def Test (P : Program) (lim : Nat) (v : Value) (a b : ACode) (Q : Post) (e : List Value) (H : AHeap) : Prop :=
 ∃ g, v = .bool g ∧ if g then awp P lim a Q e H else awp P lim b Q e H
theorem s_test {o : Opd} {x y : ACode} (h : awpOps P lim ops (fun e' t' H' => Test P lim (o.ev e' t') x y (Post.seq (fun e' H' => awp P lim b Q e' H') Q) e' H') e [] H) : awp P lim (.seq (.test ops o x y) b) Q e H := h
theorem s_test1 {o : Opd} {x y : ACode} (h : awpOps P lim ops (fun e' t' H' => Test P lim (o.ev e' t') x y Q e' H') e [] H) : awp P lim (.test ops o x y) Q e H := h
theorem Test.true_ {x y : ACode} (h : awp P lim x Q e H) : Test P lim (.bool true) x y Q e H := ⟨true, rfl, h⟩
theorem Test.false_ {x y : ACode} (h : awp P lim y Q e H) : Test P lim (.bool false) x y Q e H := ⟨false, rfl, h⟩
theorem Test.split {g : Bool} {x y : ACode} (h1 : g = true → awp P lim x Q e H) (h2 : g = false → awp P lim y Q e H) : Test P lim (.bool g) x y Q e H := by
 cases g
 · exact ⟨false, rfl, h2 rfl⟩
 · exact ⟨true, rfl, h1 rfl⟩
theorem Post.seq_seq (F K : List Value → AHeap → Prop) (Q : Post) : Post.seq F (Post.seq K Q) = Post.seq F Q := by
 funext ex e H
 cases ex <;> rfl
theorem s_assoc (h : awp P lim (.seq a (.seq b c)) Q e H) : awp P lim (.seq (.seq a b) c) Q e H := by
 have h' : awp P lim a (Post.seq (fun e' H' => awp P lim b (Post.seq (fun e' H' => awp P lim c Q e' H') Q) e' H') Q) e H := h
 show awp P lim a (Post.seq (fun e' H' => awp P lim b (Post.seq (fun e' H' => awp P lim c Q e' H') Q) e' H') (Post.seq (fun e' H' => awp P lim c Q e' H') Q)) e H
 rw [Post.seq_seq]
 exact h'
theorem s_skip1 (h : Q .normal e H) : awp P lim .skip Q e H := h
theorem s_ret1 (h : Q .ret e H) : awp P lim .ret Q e H := h
theorem s_exit1 {id : Nat} (h : Q (.exit id) e H) : awp P lim (.exit id) Q e H := h
theorem s_block {id : Nat} (h : awp P lim a (Post.block id (Post.seq (fun e' H' => awp P lim b Q e' H') Q)) e H) : awp P lim (.seq (.block id a) b) Q e H := h
theorem s_block1 {id : Nat} (h : awp P lim a (Post.block id Q) e H) : awp P lim (.block id a) Q e H := h
def Round (I : Nat → List Value → AHeap → Prop) (k : Nat) (e : List Value) (H : AHeap) : Prop := ∃ k', k' < k ∧ I k' e H
theorem Round.mk {I : Nat → List Value → AHeap → Prop} {k : Nat} (k' : Nat) (hk : k' < k) (h : I k' e H) : Round I k e H := ⟨k', hk, h⟩
theorem s_loop1 (I : Nat → List Value → AHeap → Prop) (k : Nat) (h : I k e H) (hr : ∀ k e H, I k e H → awp P lim a (Post.seq (Round I k) Q) e H) : awp P lim (.loop a) Q e H := ⟨I, k, h, hr⟩
theorem pqn (K : List Value → AHeap → Prop) : Post.seq K Q .normal e H = K e H := propext Iff.rfl
theorem pqr (K : List Value → AHeap → Prop) : Post.seq K Q .ret e H = Q .ret e H := propext Iff.rfl
theorem pqe (K : List Value → AHeap → Prop) (i : Nat) : Post.seq K Q (.exit i) e H = Q (.exit i) e H := propext Iff.rfl
theorem pbn (id : Nat) : Post.block id Q .normal e H = Q .normal e H := propext Iff.rfl
theorem pbr (id : Nat) : Post.block id Q .ret e H = Q .ret e H := propext Iff.rfl
theorem pbe (id i : Nat) : Post.block id Q (.exit i) e H = if i = id then Q .normal e H else Q (.exit i) e H := propext Iff.rfl
variable {K : List Value → List Value → AHeap → Prop} {t : List Value}
theorem o_nil : awpOps P lim [] K e t H = K e t H := propext Iff.rfl
theorem o_cons (o : AOper) (l : List AOper) : awpOps P lim (o :: l) K e t H = ∃ g, guardA o e t = some g ∧ if g then execA P lim o.op e t H (fun v H' => awpOps P lim l K (setD e o.dst v) (v :: t) H') else awpOps P lim l K (setD e o.dst undef) (undef :: t) H := rfl
theorem o_pure (p : POp) (d : Option Nat) (l : List AOper) : awpOps P lim (⟨.pure p, d, none⟩ :: l) K e t H = ∃ v, p.ev H e t = some v ∧ awpOps P lim l K (setD e d v) (v :: t) H := by
 simp [o_cons, guardA, execA]
theorem o_eff (x : EOp) (d : Option Nat) (l : List AOper) : awpOps P lim (⟨.eff x, d, none⟩ :: l) K e t H = ∃ r, x.ev lim H e t = some r ∧ awpOps P lim l K (setD e d r.1) (r.1 :: t) r.2 := by
 simp only [o_cons, guardA, execA, xsj, xel, if_true]
 exact propext ⟨fun ⟨v, H', h1, h2⟩ => ⟨(v, H'), h1, h2⟩, fun ⟨r, h1, h2⟩ => ⟨r.1, r.2, h1, h2⟩⟩
def contK (P : Program) (lim : Nat) (l : List AOper) (K : List Value → List Value → AHeap → Prop) (e : List Value) (d : Option Nat) (t : List Value) (v : Value) (H : AHeap) : Prop := awpOps P lim l K (setD e d v) (v :: t) H
theorem o_cont (l : List AOper) (d : Option Nat) (v : Value) : contK P lim l K e d t v H = awpOps P lim l K (setD e d v) (v :: t) H := propext Iff.rfl
theorem o_callF (f : FuncId) (as : List Opd) (d : Option Nat) (l : List AOper) : awpOps P lim (⟨.call false (.f f) as, d, none⟩ :: l) K e t H = ACalls P lim f (as.map (·.ev e t)) H (contK P lim l K e d t) := by
 show _ = ACalls P lim f (as.map (·.ev e t)) H (fun v H' => awpOps P lim l K (setD e d v) (v :: t) H')
 simp only [o_cons, guardA, execA, xsj, xel, if_true]
 exact propext ⟨fun ⟨g, cs, h1, h2⟩ => by cases h1; simpa using h2, fun h => ⟨f, #[], rfl, by simpa using h⟩⟩
theorem o_callN (f : FuncId) (as : List Opd) (d : Option Nat) (l : List AOper) : awpOps P lim (⟨.call true (.f f) as, d, none⟩ :: l) K e t H = ACalls P H.next f (as.map (·.ev e t)) H (contK P lim l K e d t) := by
 show _ = ACalls P H.next f (as.map (·.ev e t)) H (fun v H' => awpOps P lim l K (setD e d v) (v :: t) H')
 simp only [o_cons, guardA, execA, xsj, xel, if_true]
 exact propext ⟨fun ⟨g, cs, h1, h2⟩ => by cases h1; simpa using h2, fun h => ⟨f, #[], rfl, by simpa using h⟩⟩
def callV (P : Program) (lim : Nat) (v : Value) (args : List Value) (H : AHeap) (R : Value → AHeap → Prop) : Prop := ∃ g cs, v = .func (.func g) #[] cs ∧ ACalls P lim g (args ++ cs.toList) H R
theorem o_callT (i : Nat) (as : List Opd) (d : Option Nat) (l : List AOper) : awpOps P lim (⟨.call false (.t i) as, d, none⟩ :: l) K e t H = callV P lim (gv t i) (as.map (·.ev e t)) H (contK P lim l K e d t) := by
 simp only [o_cons, guardA, execA, xsj, xel, if_true, Bool.false_eq_true, if_false]
 exact propext Iff.rfl
theorem callV_fn (g : FuncId) (args : List Value) (R : Value → AHeap → Prop) : callV P lim (.func (.func g) #[] #[]) args H R = ACalls P lim g args H R := by
 refine propext ⟨fun ⟨g', cs, h1, h2⟩ => ?_, fun h => ⟨g, #[], rfl, by simpa using h⟩⟩
 cases h1
 simpa using h2
theorem callV_clo (g : FuncId) (cs : Array Value) (args : List Value) (R : Value → AHeap → Prop) : callV P lim (.func (.func g) #[] cs) args H R = ACalls P lim g (args ++ cs.toList) H R := by
 refine propext ⟨fun ⟨g', cs, h1, h2⟩ => ?_, fun h => ⟨g, cs, rfl, h⟩⟩
 cases h1
 exact h2
def guardK (P : Program) (lim : Nat) (op : AOp) (d : Option Nat) (l : List AOper) (K : List Value → List Value → AHeap → Prop) (e t : List Value) (H : AHeap) (v : Value) (want : Bool) : Prop :=
 (∃ b, v = .bool b ∧ if (b == want) = true then awpOps P lim (⟨op, d, none⟩ :: l) K e t H else awpOps P lim l K (setD e d undef) (undef :: t) H) ∨ (v = undef ∧ awpOps P lim l K (setD e d undef) (undef :: t) H)
theorem o_guard (op : AOp) (d : Option Nat) (x : Opd) (want : Bool) (l : List AOper) : awpOps P lim (⟨op, d, some (x, want)⟩ :: l) K e t H = guardK P lim op d l K e t H (x.ev e t) want := by
 unfold guardK
 simp only [o_cons, guardA]
 generalize x.ev e t = v
 refine propext ⟨fun ⟨g, h1, h2⟩ => ?_, fun hh => ?_⟩
 · cases v with
   | bool b0 =>
     refine .inl ⟨b0, rfl, ?_⟩
     cases h1
     by_cases hg : (b0 == want) = true
     · simp only [hg, if_true] at h2 ⊢; exact ⟨true, rfl, by simpa using h2⟩
     · simp only [hg] at h2 ⊢; exact h2
   | tuple cs =>
     simp only at h1
     by_cases hcs : cs.size = 0
     · rw [if_pos hcs] at h1
       cases h1
       have : cs = #[] := Array.eq_empty_of_size_eq_zero hcs
       subst this
       exact .inr ⟨rfl, by simpa using h2⟩
     · rw [if_neg hcs] at h1
       cases h1
   | _ => cases h1
 · rcases hh with ⟨b, h1, h2⟩ | ⟨h1, h2⟩
   · subst h1
     refine ⟨b == want, rfl, ?_⟩
     by_cases hg : (b == want) = true
     · simp only [hg, if_true] at h2 ⊢
       obtain ⟨g, hg', h2⟩ := h2
       cases hg'
       simpa using h2
     · simp only [hg] at h2 ⊢; exact h2
   · subst h1
     exact ⟨false, rfl, by simpa using h2⟩
theorem gk_u (op : AOp) (d : Option Nat) (l : List AOper) (want : Bool) : guardK P lim op d l K e t H undef want = awpOps P lim l K (setD e d undef) (undef :: t) H := by simp [guardK, undef]
theorem gk_tt (op : AOp) (d : Option Nat) (l : List AOper) : guardK P lim op d l K e t H (.bool true) true = awpOps P lim (⟨op, d, none⟩ :: l) K e t H := by simp [guardK, undef]
theorem gk_ff (op : AOp) (d : Option Nat) (l : List AOper) : guardK P lim op d l K e t H (.bool false) false = awpOps P lim (⟨op, d, none⟩ :: l) K e t H := by simp [guardK, undef]
theorem gk_tf (op : AOp) (d : Option Nat) (l : List AOper) : guardK P lim op d l K e t H (.bool true) false = awpOps P lim l K (setD e d undef) (undef :: t) H := by simp [guardK, undef]
theorem gk_ft (op : AOp) (d : Option Nat) (l : List AOper) : guardK P lim op d l K e t H (.bool false) true = awpOps P lim l K (setD e d undef) (undef :: t) H := by simp [guardK, undef]
theorem t_nil : awpT P lim .nil K e t H = K e t H := propext Iff.rfl
theorem t_op (i : Nat) (o : AOper) (k : ATree) : awpT P lim (.op i o k) K e t H = awpOps P lim [o] (fun e' t' H' => awpT P lim k K e' t' H') e t H := propext Iff.rfl
theorem t_alt (x y : ATree) : awpT P lim (.alt x y) K e t H = (awpT P lim x K e t H ∧ awpT P lim y K e t H) := propext Iff.rfl
theorem s_regT {T : ATree} {b : ACode} {Q : Post} (h : awpT P lim T (fun e' _ H' => awp P lim b Q e' H') e [] H) : awp P lim (.seq (.regT T) b) Q e H := h
end
end Go.Ab
namespace Go.Ab
def FinP (rs : List RRes) (R : Value → AHeap → Prop) : Post
 | .normal, e, H => ∃ v, resV H e rs = some v ∧ R v H
 | .ret, e, H => ∃ v, resV H e rs = some v ∧ R v H
 | _, _, _ => False
theorem p_fin_normal (rs : List RRes) (R : Value → AHeap → Prop) (e : List Value) (H : AHeap) : FinP rs R .normal e H = ∃ v, resV H e rs = some v ∧ R v H := propext Iff.rfl
theorem pfr (rs : List RRes) (R : Value → AHeap → Prop) (e : List Value) (H : AHeap) : FinP rs R .ret e H = ∃ v, resV H e rs = some v ∧ R v H := propext Iff.rfl
theorem IsFn.go {P : Program} {lim f np : Nat} {vs : List Nat} {C : ACode} {rs : List RRes} (h : IsFn P f vs np C rs) {args : List Value} {H : AHeap} {R : Value → AHeap → Prop} (hargs : args.length = np)
   (hA : awp P lim C (FinP rs R) (env0 vs args) H) : ACalls P lim f args H R := by
 refine h.calls hargs ?_
 have h2 : (FinP rs R) = (fun ex e' H' => (ex = .normal ∨ ex = .ret) ∧ ∃ v, resV H' e' rs = some v ∧ R v H') := by
   funext ex e' H'
   cases ex <;> simp [FinP]
 rw [← h2]
 exact hA
end Go.Ab
namespace Go.Ab
theorem ACalls.use {P : Program} {lim : Nat} {f : FuncId} {args : List Value} {H : AHeap} {R K : Value → AHeap → Prop} (h : ACalls P H.next f args H R) (hk : ∀ v H', R v H' → Ext H H' → K v H') : ACalls P lim f args H K :=
 h.weaken.mono fun v H' ⟨a, b⟩ => hk v H' a b
end Go.Ab
