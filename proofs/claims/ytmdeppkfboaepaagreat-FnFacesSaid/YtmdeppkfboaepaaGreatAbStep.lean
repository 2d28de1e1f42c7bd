/- A part of the proof of a statement of this seat: the program logic; no condition. -/
import Derived.Test.YtmdeppkfboaepaaGreatAbUse
namespace Go.Ab
set_option linter.unusedVariables false
set_option linter.unusedSimpArgs false
section
variable {P : Program} {lim : Nat} {Q : J6} {e : List Value} {H : A1} {a b c : C1} {ops : List D9}
theorem A0 (h : D8 P lim ops (fun e' _ H' => awp P lim b Q e' H') e [] H) : awp P lim (.seq (.reg ops) b) Q e H := h
theorem A4 (h : D8 P lim ops (fun e' _ H' => Q .normal e' H') e [] H) : awp P lim (.reg ops) Q e H := h
def C4 (P : Program) (lim : Nat) (v : Value) (a b : C1) (Q : J6) (e : List Value) (H : A1) : Prop :=
 ∃ g, v = .bool g ∧ if g then awp P lim a Q e H else awp P lim b Q e H
theorem A9 {o : Opd} {x y : C1} (h : D8 P lim ops (fun e' t' H' => C4 P lim (o.ev e' t') x y (J6.seq (fun e' H' => awp P lim b Q e' H') Q) e' H') e [] H) : awp P lim (.seq (.test ops o x y) b) Q e H := h
theorem E1 {o : Opd} {x y : C1} (h : D8 P lim ops (fun e' t' H' => C4 P lim (o.ev e' t') x y Q e' H') e [] H) : awp P lim (.test ops o x y) Q e H := h
theorem C4.true_ {x y : C1} (h : awp P lim x Q e H) : C4 P lim (.bool true) x y Q e H := ⟨true, rfl, h⟩
theorem C4.false_ {x y : C1} (h : awp P lim y Q e H) : C4 P lim (.bool false) x y Q e H := ⟨false, rfl, h⟩
theorem C4.split {g : Bool} {x y : C1} (h1 : g = true → awp P lim x Q e H) (h2 : g = false → awp P lim y Q e H) : C4 P lim (.bool g) x y Q e H := by
 cases g
 ·exact ⟨false, rfl, h2 rfl⟩
 ·exact ⟨true, rfl, h1 rfl⟩
theorem J6.seq_seq (F K : List Value → A1 → Prop) (Q : J6) : J6.seq F (J6.seq K Q) = J6.seq F Q := by
 funext ex e H
 cases ex <;> rfl
theorem C7 (h : awp P lim (.seq a (.seq b c)) Q e H) : awp P lim (.seq (.seq a b) c) Q e H := by
 have h' : awp P lim a (J6.seq (fun e' H' => awp P lim b (J6.seq (fun e' H' => awp P lim c Q e' H') Q) e' H') Q) e H := h; show awp P lim a (J6.seq (fun e' H' => awp P lim b (J6.seq (fun e' H' => awp P lim c Q e' H') Q) e' H') (J6.seq (fun e' H' => awp P lim c Q e' H') Q)) e H; rw [J6.seq_seq]; exact h'
theorem A2 (h : Q .normal e H) : awp P lim .skip Q e H := h
theorem A3 (h : Q .ret e H) : awp P lim .ret Q e H := h
theorem B8 {id : Nat} (h : Q (.exit id) e H) : awp P lim (.exit id) Q e H := h
theorem A7 {id : Nat} (h : awp P lim a (J6.block id (J6.seq (fun e' H' => awp P lim b Q e' H') Q)) e H) : awp P lim (.seq (.block id a) b) Q e H := h
theorem A8 {id : Nat} (h : awp P lim a (J6.block id Q) e H) : awp P lim (.block id a) Q e H := h
def C6 (I : Nat → List Value → A1 → Prop) (k : Nat) (e : List Value) (H : A1) : Prop := ∃ k', k' < k ∧ I k' e H
theorem C6.mk {I : Nat → List Value → A1 → Prop} {k : Nat} (k' : Nat) (hk : k' < k) (h : I k' e H) : C6 I k e H := ⟨k', hk, h⟩
theorem B9 (I : Nat → List Value → A1 → Prop) (k : Nat) (h : I k e H) (hr : ∀ k e H, I k e H → awp P lim a (J6.seq (C6 I k) Q) e H) : awp P lim (.loop a) Q e H := ⟨I, k, h, hr⟩
theorem N5 (K : List Value → A1 → Prop) : J6.seq K Q .normal e H = K e H := propext Iff.rfl
theorem B2c (K : List Value → A1 → Prop) : J6.seq K Q .ret e H = Q .ret e H := propext Iff.rfl
theorem A9l (K : List Value → A1 → Prop) (i : Nat) : J6.seq K Q (.exit i) e H = Q (.exit i) e H := propext Iff.rfl
theorem A02 (id : Nat) : J6.block id Q .normal e H = Q .normal e H := propext Iff.rfl
theorem A5n (id : Nat) : J6.block id Q .ret e H = Q .ret e H := propext Iff.rfl
theorem A35 (id i : Nat) : J6.block id Q (.exit i) e H = if i = id then Q .normal e H else Q (.exit i) e H := propext Iff.rfl
variable {K : List Value → List Value → A1 → Prop} {t : List Value}
theorem T1 : D8 P lim [] K e t H = K e t H := propext Iff.rfl
theorem B2n (o : D9) (l : List D9) : D8 P lim (o :: l) K e t H = ∃ g, Y2 o e t = some g ∧ if g then A7w P lim o.op e t H (fun v H' => D8 P lim l K (I8 e o.dst v) (v :: t) H') else D8 P lim l K (I8 e o.dst undef) (undef :: t) H := rfl
theorem J4 (p : POp) (d : Option Nat) (l : List D9) : D8 P lim (⟨.pure p, d, none⟩ :: l) K e t H = ∃ v, p.ev H e t = some v ∧ D8 P lim l K (I8 e d v) (v :: t) H := by
 simp [B2n, Y2, A7w]
theorem C39 (x : EOp) (d : Option Nat) (l : List D9) : D8 P lim (⟨.eff x, d, none⟩ :: l) K e t H = ∃ r, x.ev lim H e t = some r ∧ D8 P lim l K (I8 e d r.1) (r.1 :: t) r.2 := by
 simp only [B2n, Y2, A7w, Option.some.injEq, exists_eq_left', if_true]; exact propext ⟨fun ⟨v, H', h1, h2⟩ => ⟨(v, H'), h1, h2⟩, fun ⟨r, h1, h2⟩ => ⟨r.1, r.2, h1, h2⟩⟩
def C62 (P : Program) (lim : Nat) (l : List D9) (K : List Value → List Value → A1 → Prop) (e : List Value) (d : Option Nat) (t : List Value) (v : Value) (H : A1) : Prop := D8 P lim l K (I8 e d v) (v :: t) H
theorem s7 (l : List D9) (d : Option Nat) (v : Value) : C62 P lim l K e d t v H = D8 P lim l K (I8 e d v) (v :: t) H := propext Iff.rfl
theorem X5 (f : FuncId) (as : List Opd) (d : Option Nat) (l : List D9) : D8 P lim (⟨.call false (.f f) as, d, none⟩ :: l) K e t H = A5 P lim f (as.map (·.ev e t)) H (C62 P lim l K e d t) := by
 show _ = A5 P lim f (as.map (·.ev e t)) H (fun v H' => D8 P lim l K (I8 e d v) (v :: t) H'); simp only [B2n, Y2, A7w, Option.some.injEq, exists_eq_left', if_true]; exact propext ⟨fun ⟨g, cs, h1, h2⟩ => by cases h1; simpa using h2, fun h => ⟨f, #[], rfl, by simpa using h⟩⟩
theorem C1i (f : FuncId) (as : List Opd) (d : Option Nat) (l : List D9) : D8 P lim (⟨.call true (.f f) as, d, none⟩ :: l) K e t H = A5 P H.next f (as.map (·.ev e t)) H (C62 P lim l K e d t) := by
 show _ = A5 P H.next f (as.map (·.ev e t)) H (fun v H' => D8 P lim l K (I8 e d v) (v :: t) H'); simp only [B2n, Y2, A7w, Option.some.injEq, exists_eq_left', if_true]; exact propext ⟨fun ⟨g, cs, h1, h2⟩ => by cases h1; simpa using h2, fun h => ⟨f, #[], rfl, by simpa using h⟩⟩
def C5z (P : Program) (lim : Nat) (v : Value) (args : List Value) (H : A1) (R : Value → A1 → Prop) : Prop := ∃ g cs, v = .func (.func g) #[] cs ∧ A5 P lim g (args ++ cs.toList) H R
theorem C6p (i : Nat) (as : List Opd) (d : Option Nat) (l : List D9) : D8 P lim (⟨.call false (.t i) as, d, none⟩ :: l) K e t H = C5z P lim (gv t i) (as.map (·.ev e t)) H (C62 P lim l K e d t) := by
 simp only [B2n, Y2, A7w, Option.some.injEq, exists_eq_left', if_true, Bool.false_eq_true, if_false]; exact propext Iff.rfl
theorem C4h (g : FuncId) (args : List Value) (R : Value → A1 → Prop) : C5z P lim (.func (.func g) #[] #[]) args H R = A5 P lim g args H R := by
 refine propext ⟨fun ⟨g', cs, h1, h2⟩ => ?_, fun h => ⟨g, #[], rfl, by simpa using h⟩⟩; cases h1; simpa using h2
theorem C8d (g : FuncId) (cs : Array Value) (args : List Value) (R : Value → A1 → Prop) : C5z P lim (.func (.func g) #[] cs) args H R = A5 P lim g (args ++ cs.toList) H R := by
 refine propext ⟨fun ⟨g', cs, h1, h2⟩ => ?_, fun h => ⟨g, cs, rfl, h⟩⟩; cases h1; exact h2
def r8 (P : Program) (lim : Nat) (op : AOp) (d : Option Nat) (l : List D9) (K : List Value → List Value → A1 → Prop) (e t : List Value) (H : A1) (v : Value) (want : Bool) : Prop :=
 (∃ b, v = .bool b ∧ if (b == want) = true then D8 P lim (⟨op, d, none⟩ :: l) K e t H else D8 P lim l K (I8 e d undef) (undef :: t) H) ∨ (v = undef ∧ D8 P lim l K (I8 e d undef) (undef :: t) H)
theorem C6a (op : AOp) (d : Option Nat) (x : Opd) (want : Bool) (l : List D9) : D8 P lim (⟨op, d, some (x, want)⟩ :: l) K e t H = r8 P lim op d l K e t H (x.ev e t) want := by
 unfold r8; simp only [B2n, Y2]; generalize x.ev e t = v; refine propext ⟨fun ⟨g, h1, h2⟩ => ?_, fun hh => ?_⟩
 ·cases v with
  | bool b0 =>
    refine .inl ⟨b0, rfl, ?_⟩; cases h1; by_cases hg : (b0 == want) = true
    ·simp only [hg, if_true] at h2 ⊢; exact ⟨true, rfl, by simpa using h2⟩
    ·simp only [hg] at h2 ⊢; exact h2
  | tuple cs =>
    simp only at h1; by_cases hcs : cs.size = 0
    ·rw [if_pos hcs] at h1; cases h1; have : cs = #[] := Array.eq_empty_of_size_eq_zero hcs; subst this; exact .inr ⟨rfl, by simpa using h2⟩
    ·rw [if_neg hcs] at h1; cases h1
  | _ => cases h1
 ·rcases hh with ⟨b, h1, h2⟩ | ⟨h1, h2⟩
  ·subst h1; refine ⟨b == want, rfl, ?_⟩; by_cases hg : (b == want) = true
   ·simp only [hg, if_true] at h2 ⊢; obtain ⟨g, hg', h2⟩ := h2; cases hg'; simpa using h2
   ·simp only [hg] at h2 ⊢; exact h2
  ·subst h1; exact ⟨false, rfl, by simpa using h2⟩
theorem D4z (op : AOp) (d : Option Nat) (l : List D9) (want : Bool) : r8 P lim op d l K e t H undef want = D8 P lim l K (I8 e d undef) (undef :: t) H := by simp [r8, undef]
theorem D2m (op : AOp) (d : Option Nat) (l : List D9) : r8 P lim op d l K e t H (.bool true) true = D8 P lim (⟨op, d, none⟩ :: l) K e t H := by simp [r8, undef]
theorem D2q (op : AOp) (d : Option Nat) (l : List D9) : r8 P lim op d l K e t H (.bool false) false = D8 P lim (⟨op, d, none⟩ :: l) K e t H := by simp [r8, undef]
theorem D2g (op : AOp) (d : Option Nat) (l : List D9) : r8 P lim op d l K e t H (.bool true) false = D8 P lim l K (I8 e d undef) (undef :: t) H := by simp [r8, undef]
theorem D2k (op : AOp) (d : Option Nat) (l : List D9) : r8 P lim op d l K e t H (.bool false) true = D8 P lim l K (I8 e d undef) (undef :: t) H := by simp [r8, undef]
theorem D2i : T6 P lim .nil K e t H = K e t H := propext Iff.rfl
theorem D3q (i : Nat) (o : D9) (k : B0) : T6 P lim (.op i o k) K e t H = D8 P lim [o] (fun e' t' H' => T6 P lim k K e' t' H') e t H := propext Iff.rfl
theorem D2b (x y : B0) : T6 P lim (.alt x y) K e t H = (T6 P lim x K e t H ∧ T6 P lim y K e t H) := propext Iff.rfl
theorem B7x {T : B0} {b : C1} {Q : J6} (h : T6 P lim T (fun e' _ H' => awp P lim b Q e' H') e [] H) : awp P lim (.seq (.regT T) b) Q e H := h
theorem C6g {T : B0} {Q : J6} (h : T6 P lim T (fun e' _ H' => Q .normal e' H') e [] H) : awp P lim (.regT T) Q e H := h
end
end Go.Ab
namespace Go.Ab
def C92 (rs : List B0t) (R : Value → A1 → Prop) : J6
 | .normal, e, H => ∃ v, A1q H e rs = some v ∧ R v H
 | .ret, e, H => ∃ v, A1q H e rs = some v ∧ R v H
 | _, _, _ => False
theorem B0e (rs : List B0t) (R : Value → A1 → Prop) (e : List Value) (H : A1) : C92 rs R .normal e H = ∃ v, A1q H e rs = some v ∧ R v H := propext Iff.rfl
theorem W7 (rs : List B0t) (R : Value → A1 → Prop) (e : List Value) (H : A1) : C92 rs R .ret e H = ∃ v, A1q H e rs = some v ∧ R v H := propext Iff.rfl
theorem D4.go {P : Program} {lim f np : Nat} {vs : List Nat} {C : C1} {rs : List B0t} (h : D4 P f vs np C rs) {args : List Value} {H : A1} {R : Value → A1 → Prop} (hargs : args.length = np)
 (hA : awp P lim C (C92 rs R) (A7p vs args) H) : A5 P lim f args H R := by
 refine h.calls hargs ?_; have h2 : (C92 rs R) = (fun ex e' H' => (ex = .normal ∨ ex = .ret) ∧ ∃ v, A1q H' e' rs = some v ∧ R v H') := by
  funext ex e' H'
  cases ex <;> simp [C92]
 rw [← h2]; exact hA
end Go.Ab
namespace Go.Ab
theorem A5.use {P : Program} {lim : Nat} {f : FuncId} {args : List Value} {H : A1} {R K : Value → A1 → Prop} (h : A5 P H.next f args H R) (hk : ∀ v H', R v H' → Ext H H' → K v H') : A5 P lim f args H K :=
 h.weaken.mono fun v H' ⟨a, b⟩ => hk v H' a b
end Go.Ab
