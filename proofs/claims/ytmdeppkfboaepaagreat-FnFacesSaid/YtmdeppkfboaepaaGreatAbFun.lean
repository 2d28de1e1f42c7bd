/- A part of the proof of a statement of this seat: the program logic; no condition. -/
import Derived.Test.YtmdeppkfboaepaaGreatAbDraw
namespace Go.Ab
set_option linter.unusedVariables false
set_option linter.unusedSimpArgs false
inductive C1 where
 | skip
 | reg (ops : List D9)
 | regT (T : B0)
 | test (ops : List D9) (c : Opd) (a b : C1)
 | seq (a b : C1)
 | cond (c : Opd) (a b : C1)
 | block (id : Nat) (c : C1)
 | loop (c : C1)
 | exit (id : Nat)
 | ret
 | fail
abbrev J6 := Exit → List Value → A1 → Prop
def J6.seq (K : List Value → A1 → Prop) (Q : J6) : J6
 | .normal, e, H => K e H
 | ex, e, H => Q ex e H
def J6.block (id : Nat) (Q : J6) : J6
 | .exit i, e, H => if i = id then Q .normal e H else Q (.exit i) e H
 | ex, e, H => Q ex e H
def awp (P : Program) (lim : Nat) : C1 → J6 → List Value → A1 → Prop
 | .skip, Q, e, H => Q .normal e H
 | .reg ops, Q, e, H => D8 P lim ops (fun e' _ H' => Q .normal e' H') e [] H
 | .regT T, Q, e, H => T6 P lim T (fun e' _ H' => Q .normal e' H') e [] H
 | .test ops c a b, Q, e, H => D8 P lim ops (fun e' t' H' => ∃ g, c.ev e' t' = .bool g ∧ if g then awp P lim a Q e' H' else awp P lim b Q e' H') e [] H
 | .seq a b, Q, e, H => awp P lim a (J6.seq (fun e' H' => awp P lim b Q e' H') Q) e H
 | .cond c a b, Q, e, H => ∃ g, c.ev e [] = .bool g ∧ if g then awp P lim a Q e H else awp P lim b Q e H
 | .block id c, Q, e, H => awp P lim c (J6.block id Q) e H
 | .loop c, Q, e, H => ∃ (I : Nat → List Value → A1 → Prop) (k : Nat), I k e H ∧ ∀ k e H, I k e H → awp P lim c (J6.seq (fun e' H' => ∃ k', k' < k ∧ I k' e' H') Q) e H
 | .exit id, Q, e, H => Q (.exit id) e H
 | .ret, Q, e, H => Q .ret e H
 | .fail, _, _, _ => False
def C0c (vs : List Nat) (o : Oper) : Bool :=
 (match o.dst with | some s => !Z3 vs s | none => false) &&
 (match o.op with
  | .move _ | .assign _ | .pick .. | .binOp .. | .unOp .. | .convert .. | .load .. | .nilCheck _ | .fieldAddr .. | .field .. | .indexAddr .. | .index .. | .extract .. | .slice .. | .makeFunc .. | .build .. => true
  | .call c => (match c.callee with | .builtin .len => true | .builtin .cap => true | .builtin .max => true | .builtin .min => true | _ => false)
  | _ => false)
def A25 (o : Oper) : Bool := match o.op with | .load .. => true | _ => false
def D2l (o : Oper) : List Nat := (o.after.toList.filter fun ed => Region.binds .any ed).map (·.on)
def D0a (done : List Nat) (o : Oper) : Bool := (D2l o).all (Z3 done)
def C6o (done : List Nat) (p : Oper → Bool) : List (Nat × Oper) → Option Nat
 | [] => none
 | (i, o) :: l => if !Z3 done i && D0a done o && p o then some i else C6o done p l
def A9x (vs : List Nat) (ops : List (Nat × Oper)) : Nat → List Nat → List Nat
 | 0, done => done.reverse
 | k + 1, done => match C6o done (C0c vs) ops with
   | some i => A9x vs ops k (i :: done)
   | none => match C6o done (fun _ => true) ops with
     | some i => A9x vs ops k (i :: done)
     | none => done.reverse
def D36 (x : Nat) (l : List Nat) : List Nat := if Z3 l x then l else x :: l
def D2v (l m : List Nat) : List Nat := l.foldr D36 m
def C5n : List Oper → List (List Nat) → List (List Nat)
 | [], acc => acc
 | o :: l, acc => C5n l (acc ++ [(D2l o).foldr (fun j r => D36 j (D2v (acc.getD j []) r)) []])
def D6a (ops : List (Nat × Oper)) (A : Nat → List Nat) (κ : List Nat) (i : Nat) : Bool :=
 !(ops.any fun p => Nat.beq p.1 i && A25 p.2) && (κ.takeWhile (fun j => !Nat.beq j i)).any fun j => !Z3 (A i) j && (ops.any fun p => Nat.beq p.1 j && A25 p.2)
def A7u (P : Program) (vs : List Nat) (n : Nat) (ops : Array Oper) (draw : Bool) : Option (List D9 × List Nat) :=
 if draw then
  let l := ops.toList.zipIdx.map fun p => (p.2, p.1)
  let AL := C5n ops.toList []
  let κ := A9x vs l ops.size []
  (B07 P vs n ops (D6a l (fun i => AL.getD i []) κ) κ []).bind fun r => if okD n ops (fun i => AL.getD i []) κ (.ofList (κ.zip r.1)) = true then some r else none
 else B07 P vs n ops (fun _ => false) (List.range ops.size) []
def nwT (hv : Bool) (l : List (Nat × Oper)) (A : Nat → List Nat) (done : List Nat) (i : Nat) : Bool :=
 if hv then l.any fun p => Nat.beq p.1 i && A25 p.2 else !(l.any fun p => Nat.beq p.1 i && A25 p.2) && done.any fun j => !Z3 (A i) j && (l.any fun p => Nat.beq p.1 j && A25 p.2)
def C1d (done : List Nat) : List (Nat × Oper) → List Nat
 | [] => []
 | (i, o) :: l => if !Z3 done i && D0a done o then i :: C1d done l else C1d done l
def C6e (one : Nat → Option B0) : List Nat → Option B0
 | [] => none
 | [i] => one i
 | i :: l => (one i).bind fun a => (C6e one l).map fun b => .alt a b
def D08 (P : Program) (vs : List Nat) (n : Nat) (ops : Array Oper) (nw : Bool) (ts : List Nat) (k : List Nat → Option B0) (i : Nat) : Option B0 :=
 (ops[i]?).bind fun o => (A2f n ops ts o).bind fun g => (C5r P n vs ts nw o).bind fun a =>
  if D1 n o ≤ n ∧ (o.dst.isSome = true → D1 n o < n ∧ Q2 ts (D1 n o) = none) then (k (D1 n o :: ts)).map fun t => .op i ⟨a, o.dst.bind (Q2 vs), g⟩ t else none
def mkT (hv : Bool) (P : Program) (vs : List Nat) (n : Nat) (ops : Array Oper) (A : Nat → List Nat) (l : List (Nat × Oper)) : Nat → List Nat → List Nat → Option B0
 | 0, _, _ => some .nil
 | k + 1, done, ts => match C6o done (fun o => C0c vs o && !(hv && A25 o)) l with
   | some i => D08 P vs n ops (nwT hv l A done i) ts (fun ts' => mkT hv P vs n ops A l k (i :: done) ts') i
   | none =>
     let r := C1d done l
     if Nat.ble r.length 3 then C6e (fun i => D08 P vs n ops (nwT hv l A done i) ts (fun ts' => mkT hv P vs n ops A l k (i :: done) ts') i) r else none
def B6p (hv : Bool) (P : Program) (vs : List Nat) (n : Nat) (ops : Array Oper) : Option B0 :=
 let l := ops.toList.zipIdx.map fun p => (p.2, p.1)
 let AL := C5n ops.toList []
 (mkT hv P vs n ops (fun i => AL.getD i []) l ops.size [] []).bind fun T => if okD n ops (fun i => AL.getD i []) (A9x vs l ops.size []) T = true then some T else none
def D3m (P : Program) (vs : List Nat) (n : Nat) (ops : Array Oper) (d : Bool) : Option C1 :=
 match A7u P vs n ops d with
 | some r => some (.reg r.1)
 | none => if d then (match B6p false P vs n ops with
   | some T => some T
   | none => B6p true P vs n ops).map .regT else none
def B78 : Option C1 → Option C1
 | some c => some c
 | none => some .fail
theorem A3y {o : Option C1} {c : C1} (h : B78 o = some c) : o = some c ∨ c = .fail := by
 cases o with
 | none => cases h; exact .inr rfl
 | some c' => exact .inl h
def R6 (P : Program) (vs : List Nat) (n : Nat) : Code → Option C1
 | .skip => some .skip
 | .region _ ops d => B78 (D3m P vs n ops d)
 | .seq (.region _ ops d) (.seq (.cond c a b) k) =>
   B78 ((A7u P vs n ops d).bind fun r => (A0k n vs r.2 c).bind fun c' => (R6 P vs n a).bind fun a' => (R6 P vs n b).bind fun b' => (R6 P vs n k).map fun k' => .seq (.test r.1 c' a' b') k')
 | .seq (.region _ ops d) (.cond c a b) =>
   B78 ((A7u P vs n ops d).bind fun r => (A0k n vs r.2 c).bind fun c' => (R6 P vs n a).bind fun a' => (R6 P vs n b).map fun b' => .test r.1 c' a' b')
 | .seq a b => (R6 P vs n a).bind fun a' => (R6 P vs n b).map fun b' => .seq a' b'
 | .cond c a b => B78 ((A0k n vs [] c).bind fun c' => (R6 P vs n a).bind fun a' => (R6 P vs n b).map fun b' => .cond c' a' b')
 | .block id c => (R6 P vs n c).map fun c' => .block id c'
 | .loop c => (R6 P vs n c).map fun c' => .loop c'
 | .exit id => some (.exit id)
 | .ret => some .ret
 | _ => some .fail
section
variable {P : Program} {lim n : Nat} {vs ts : List Nat} {β : Inj} {e t : List Value} {a : Act} {H : A1} {w : World}
theorem St.drop (h : St vs ts n β e t a) : St vs [] n β e [] a :=
 ⟨h.size, h.defers, h.vlt, h.len, rfl, h.env, by intro i s hi; simp at hi⟩
theorem B0h {ops : Array Oper} {nwf : Nat → Bool} : ∀ {κ ts : List Nat} {r : List D9 × List Nat}, B07 P vs n ops nwf κ ts = some r → r.1.length = κ.length
 | [], ts, r, h => by cases h; rfl
 | i :: κ, ts, r, h => by
   simp only [B07] at h; obtain ⟨o, _, h⟩ := Option.bind_eq_some_iff.1 h; obtain ⟨g, _, h⟩ := Option.bind_eq_some_iff.1 h; obtain ⟨ao, _, h⟩ := Option.bind_eq_some_iff.1 h; split at h
   ·obtain ⟨r', hr, h⟩ := Option.map_eq_some_iff.1 h; subst h; simp [B0h hr]
   ·cases h
theorem B5t {ops : Array Oper} {nwf : Nat → Bool} {ts' : List Nat} : ∀ {κ ts : List Nat} {r : List D9 × List Nat}, B07 P vs n ops nwf κ ts = some r → r.2 = ts' → A7b P n vs ops (· = ts') (.ofList (κ.zip r.1)) ts
 | [], ts, r, h, h2 => by cases h; exact h2
 | i :: κ, ts, r, h, h2 => by
   simp only [B07] at h; obtain ⟨o, ho, h⟩ := Option.bind_eq_some_iff.1 h; obtain ⟨g, hg, h⟩ := Option.bind_eq_some_iff.1 h; obtain ⟨ao, hao, h⟩ := Option.bind_eq_some_iff.1 h; split at h
   ·rename_i hs; obtain ⟨r', hr, h⟩ := Option.map_eq_some_iff.1 h; subst h; exact ⟨o, _, ho, hg, hao, rfl, hs, B5t hr h2⟩
   ·cases h
theorem C0t.of_l {Q : List Value → List Value → A1 → Prop} {H0 : A1} {β0 : Inj} {w0 : World} {ts' : List Nat} : ∀ ex a' w', B72 lim n vs (· = ts') Q H0 β0 w0 ex a' w' → C0t lim n vs ts' Q H0 β0 w0 ex a' w' := by
 rintro ex a' w' ⟨rfl, ts1, e', t', H', β', rfl, h⟩; exact ⟨rfl, e', t', H', β', h⟩
theorem C9r (hm : P.follows .mixedOrders = true) (hvs : vs.Nodup) {ops : Array Oper} {d : Bool} {r : List D9 × List Nat} {Q : List Value → List Value → A1 → Prop} {id : Nat} (h : A7u P vs n ops d = some r)
 (hs : St vs [] n β e [] a) (hw : WR lim β H w) (hA : D8 P lim r.1 Q e [] H) : (Code.region id ops d).wp P (C0t lim n vs r.2 Q H β w) a w := by
 unfold A7u at h; cases d with
 | true =>
   simp only [if_true] at h; obtain ⟨r', hr, h⟩ := Option.bind_eq_some_iff.1 h; split at h
   ·rename_i hok; cases h; have hl := B0h hr; have e2 : (List.zip (A9x vs (ops.toList.zipIdx.map fun p => (p.2, p.1)) ops.size []) r.1).map (·.2) = r.1 := List.map_snd_zip (by omega); refine wp_mono (C65 hvs hok (B5t hr rfl) hm hs hw (by rw [B3m, e2]; exact hA)) C0t.of_l
   ·cases h
 | false =>
   simp only [Bool.false_eq_true, if_false] at h; exact wp_region (C4j hvs _ _ r.1 h e [] H β a w hs hw (Fr.refl _ _ _ _) hA)
theorem C6u {ops : Array Oper} {nw : Bool} {i : Nat} {k : List Nat → Option B0} {T : B0} (hk : ∀ ts T, k ts = some T → A7b P n vs ops (fun _ => True) T ts) (h : D08 P vs n ops nw ts k i = some T) : A7b P n vs ops (fun _ => True) T ts := by
 unfold D08 at h; obtain ⟨o, ho, h⟩ := Option.bind_eq_some_iff.1 h; obtain ⟨g, hg, h⟩ := Option.bind_eq_some_iff.1 h; obtain ⟨ao, hao, h⟩ := Option.bind_eq_some_iff.1 h; split at h
 ·rename_i hs; obtain ⟨t, ht, h⟩ := Option.map_eq_some_iff.1 h; subst h; exact ⟨o, _, ho, hg, hao, rfl, hs, hk _ _ ht⟩
 ·cases h
theorem C4e {ops : Array Oper} {one : Nat → Option B0} (h1 : ∀ i T, one i = some T → A7b P n vs ops (fun _ => True) T ts) : ∀ {l : List Nat} {T : B0}, C6e one l = some T → A7b P n vs ops (fun _ => True) T ts
 | [], T, h => by cases h
 | [i], T, h => h1 i T h
 | i :: j :: l, T, h => by
   simp only [C6e] at h; obtain ⟨a, ha, h⟩ := Option.bind_eq_some_iff.1 h; obtain ⟨b, hb, h⟩ := Option.map_eq_some_iff.1 h; subst h; exact ⟨h1 i a ha, C4e h1 hb⟩
theorem C5j {hv : Bool} {ops : Array Oper} {A : Nat → List Nat} {l : List (Nat × Oper)} : ∀ (k : Nat) (done ts : List Nat) (T : B0), mkT hv P vs n ops A l k done ts = some T → A7b P n vs ops (fun _ => True) T ts
 | 0, done, ts, T, h => by cases h; trivial
 | k + 1, done, ts, T, h => by
   unfold mkT at h; split at h
   ·exact C6u (fun ts T h => C5j k _ ts T h) h
   ·simp only at h; split at h
    ·exact C4e (fun i T h => C6u (fun ts T h => C5j k _ ts T h) h) h
    ·cases h
theorem D1c {hv : Bool} (hm : P.follows .mixedOrders = true) (hvs : vs.Nodup) {ops : Array Oper} {T : B0} {Q : List Value → List Value → A1 → Prop} {id : Nat} (h : B6p hv P vs n ops = some T)
 (hs : St vs [] n β e [] a) (hw : WR lim β H w) (hA : T6 P lim T Q e [] H) : (Code.region id ops true).wp P (B72 lim n vs (fun _ => True) Q H β w) a w := by
 unfold B6p at h; obtain ⟨T', hT, h⟩ := Option.bind_eq_some_iff.1 h; split at h
 ·rename_i hok; cases h; exact C65 hvs hok (C5j _ _ _ _ hT) hm hs hw hA
 ·cases h
def C0s (lim n : Nat) (vs : List Nat) (Q : J6) (H0 : A1) (β0 : Inj) (w0 : World) : Exit → Act → World → Prop
 | .panic _, _, _ => False
 | .outgrown, _, _ => False
 | ex, a', w' => ∃ e' H' β', Q ex e' H' ∧ St vs [] n β' e' [] a' ∧ WR lim β' H' w' ∧ Fr lim H0 β0 w0 H' β' w'
def M1 (P : Program) (lim n : Nat) (vs : List Nat) (c : Code) (C : C1) : Prop :=
 ∀ (Q : J6) (e : List Value) (H H0 : A1) (β β0 : Inj) (a : Act) (w w0 : World), St vs [] n β e [] a → WR lim β H w → Fr lim H0 β0 w0 H β w → awp P lim C Q e H → c.wp P (C0s lim n vs Q H0 β0 w0) a w
theorem C0s.of_r {Q : J6} {H0 : A1} {β0 : Inj} {w0 : World} {ts' : List Nat} (hf : Fr lim H0 β0 w0 H β w) :
 ∀ ex a' w', C0t lim n vs ts' (fun e' _ H' => Q .normal e' H') H β w ex a' w' → C0s lim n vs Q H0 β0 w0 ex a' w' := by
 rintro ex a' w' ⟨rfl, e', t', H', β', h1, h2, h3, h4⟩; exact ⟨e', H', β', h1, h2.drop, h3, hf.trans h4⟩
theorem C5w {hv : Bool} (hm : P.follows .mixedOrders = true) (hvs : vs.Nodup) {ops : Array Oper} {T : B0} {id : Nat} (h : B6p hv P vs n ops = some T) : M1 P lim n vs (.region id ops true) (.regT T) := by
 intro Q e H H0 β β0 a w w0 hs hw hf hA; refine wp_mono (D1c hm hvs h hs hw hA) ?_; rintro ex a' w' ⟨rfl, ts', e', t', H', β', _, h1, h2, h3, h4⟩; exact ⟨e', H', β', h1, h2.drop, h3, hf.trans h4⟩
theorem D2w (hm : P.follows .mixedOrders = true) (hvs : vs.Nodup) {ops : Array Oper} {d : Bool} {r : List D9 × List Nat} {id : Nat} (h : A7u P vs n ops d = some r) : M1 P lim n vs (.region id ops d) (.reg r.1) := by
 intro Q e H H0 β β0 a w w0 hs hw hf hA; exact wp_mono (C9r hm hvs h hs hw hA) (C0s.of_r hf)
theorem D1v (hm : P.follows .mixedOrders = true) (hvs : vs.Nodup) {ops : Array Oper} {d : Bool} {C : C1} {id : Nat} (h : D3m P vs n ops d = some C) : M1 P lim n vs (.region id ops d) C := by
 unfold D3m at h; cases hr : A7u P vs n ops d with
 | some r =>
   rw [hr] at h; cases h; exact D2w hm hvs hr
 | none =>
   rw [hr] at h; cases d with
   | false => simp at h
   | true =>
     simp only [if_true] at h; obtain ⟨T, hT, rfl⟩ := Option.map_eq_some_iff.1 h; split at hT
     ·rename_i hT'; cases hT; exact C5w hm hvs hT'
     ·exact C5w hm hvs hT
theorem C59 (hm : P.follows .mixedOrders = true) (hvs : vs.Nodup) {ops : Array Oper} {d : Bool} {r : List D9 × List Nat} {id : Nat} (h : A7u P vs n ops d = some r) {c : Operand} {c' : Opd} (hc : A0k n vs r.2 c = some c')
 {x y : Code} {X Y : C1} (hx : M1 P lim n vs x X) (hy : M1 P lim n vs y Y) (Q : J6) (H0 : A1) (β0 : Inj) (w0 : World) (hs : St vs [] n β e [] a) (hw : WR lim β H w) (hf : Fr lim H0 β0 w0 H β w)
 (hA : awp P lim (.test r.1 c' X Y) Q e H) : (Code.region id ops d).wp P (Exit.then ((Code.cond c x y).wp P (C0s lim n vs Q H0 β0 w0)) (C0s lim n vs Q H0 β0 w0)) a w := by
 refine wp_mono (C9r hm hvs h hs hw hA) ?_; rintro ex a' w' ⟨rfl, e', t', H', β', ⟨g, hg, h1⟩, h2, h3, h4⟩; have hv := h2.ren hc; rw [hg] at hv; refine wp_cond hv.bool_inv ?_; cases g with
 | true => exact hx Q e' H' H0 β' β0 a' w' w0 h2.drop h3 (hf.trans h4) h1
 | false => exact hy Q e' H' H0 β' β0 a' w' w0 h2.drop h3 (hf.trans h4) h1
theorem D32 {x y : Code} {X Y : C1} (hx : M1 P lim n vs x X) (hy : M1 P lim n vs y Y) : M1 P lim n vs (.seq x y) (.seq X Y) := by
 intro Q e H H0 β β0 a w w0 hs hw hf hA; refine wp_seq (wp_mono (hx _ e H H0 β β0 a w w0 hs hw hf hA) ?_); intro ex a' w' hq; cases ex with
 | normal =>
   obtain ⟨e', H', β', h1, h2, h3, h4⟩ := hq; exact hy Q e' H' H0 β' β0 a' w' w0 h2 h3 h4 h1
 | exit id => exact hq
 | goto l => exact hq
 | ret => exact hq
 | panic c => exact hq
 | outgrown => exact hq
theorem C4g (hm : P.follows .mixedOrders = true) (hvs : vs.Nodup) {ops : Array Oper} {d : Bool} {r : List D9 × List Nat} {id : Nat} (h : A7u P vs n ops d = some r) {c : Operand} {c' : Opd} (hc : A0k n vs r.2 c = some c')
 {x y k : Code} {X Y K : C1} (hx : M1 P lim n vs x X) (hy : M1 P lim n vs y Y) (hk : M1 P lim n vs k K) : M1 P lim n vs (.seq (.region id ops d) (.seq (.cond c x y) k)) (.seq (.test r.1 c' X Y) K) := by
 intro Q e H H0 β β0 a w w0 hs hw hf hA; refine wp_seq (wp_mono (C59 hm hvs h hc hx hy _ H0 β0 w0 hs hw hf hA) ?_); intro ex a' w' hq; cases ex with
 | normal =>
   refine wp_seq (wp_mono hq ?_); intro ex a' w' hq; cases ex with
   | normal =>
     obtain ⟨e', H', β', h1, h2, h3, h4⟩ := hq; exact hk Q e' H' H0 β' β0 a' w' w0 h2 h3 h4 h1
   | exit id => exact hq
   | goto l => exact hq
   | ret => exact hq
   | panic c => exact hq
   | outgrown => exact hq
 | exit id => exact hq
 | goto l => exact hq
 | ret => exact hq
 | panic c => exact hq
 | outgrown => exact hq
theorem C3n (hm : P.follows .mixedOrders = true) (hvs : vs.Nodup) {ops : Array Oper} {d : Bool} {r : List D9 × List Nat} {id : Nat} (h : A7u P vs n ops d = some r) {c : Operand} {c' : Opd} (hc : A0k n vs r.2 c = some c')
 {x y : Code} {X Y : C1} (hx : M1 P lim n vs x X) (hy : M1 P lim n vs y Y) : M1 P lim n vs (.seq (.region id ops d) (.cond c x y)) (.test r.1 c' X Y) := by
 intro Q e H H0 β β0 a w w0 hs hw hf hA; exact wp_seq (C59 hm hvs h hc hx hy Q H0 β0 w0 hs hw hf hA)
theorem D12 {c : Operand} {c' : Opd} (hc : A0k n vs [] c = some c') {x y : Code} {X Y : C1} (hx : M1 P lim n vs x X) (hy : M1 P lim n vs y Y) : M1 P lim n vs (.cond c x y) (.cond c' X Y) := by
 intro Q e H H0 β β0 a w w0 hs hw hf ⟨g, hg, hA⟩; have hv := hs.ren hc; rw [hg] at hv; refine wp_cond hv.bool_inv ?_; cases g with
 | true => exact hx Q e H H0 β β0 a w w0 hs hw hf hA
 | false => exact hy Q e H H0 β β0 a w w0 hs hw hf hA
theorem C93 {id : Nat} {x : Code} {X : C1} (hx : M1 P lim n vs x X) : M1 P lim n vs (.block id x) (.block id X) := by
 intro Q e H H0 β β0 a w w0 hs hw hf hA; refine wp_block (wp_mono (hx _ e H H0 β β0 a w w0 hs hw hf hA) ?_); intro ex a' w' hq; cases ex with
 | normal => exact hq
 | exit i =>
   obtain ⟨e', H', β', h1, h2⟩ := hq; simp only [Exit.inBlock, J6.block] at h1 ⊢; by_cases hi : i = id
   ·rw [if_pos hi] at h1 ⊢; exact ⟨e', H', β', h1, h2⟩
   ·rw [if_neg hi] at h1 ⊢; exact ⟨e', H', β', h1, h2⟩
 | goto l => exact hq
 | ret => exact hq
 | panic c => exact hq
 | outgrown => exact hq
theorem D14 {x : Code} {X : C1} (hx : M1 P lim n vs x X) : M1 P lim n vs (.loop x) (.loop X) := by
 intro Q e H H0 β β0 a w w0 hs hw hf ⟨I, k, hI, hround⟩; refine wp_loop_ghost (fun k a w => ∃ e H β, I k e H ∧ St vs [] n β e [] a ∧ WR lim β H w ∧ Fr lim H0 β0 w0 H β w) k ⟨e, H, β, hI, hs, hw, hf⟩ ?_; rintro k a w ⟨e, H, β, hI, hs, hw, hf⟩; refine wp_mono (hx _ e H H0 β β0 a w w0 hs hw hf (hround k e H hI)) ?_; intro ex a' w' hq; cases ex with
 | normal =>
   obtain ⟨e', H', β', ⟨k', h0, h1⟩, h2, h3, h4⟩ := hq; exact ⟨k', h0, e', H', β', h1, h2, h3, h4⟩
 | exit id => exact hq
 | goto l => exact hq
 | ret => exact hq
 | panic c => exact hq
 | outgrown => exact hq
theorem A97 (c : Code) : M1 P lim n vs c .fail := fun Q e H H0 β β0 a w w0 hs hw hf hA => hA.elim
theorem D15 (hm : P.follows .mixedOrders = true) (hvs : vs.Nodup) (c : Code) : ∀ C, R6 P vs n c = some C → M1 P lim n vs c C := by
 induction c using R6.induct with
 | case1 => intro C h; cases h; intro Q e H H0 β β0 a w w0 hs hw hf hA; exact wp_skip ⟨e, H, β, hA, hs, hw, hf⟩
 | case2 id ops d =>
   intro C h; rcases A3y h with h | rfl
   case inr => exact A97 _
   exact D1v hm hvs h
 | case3 id ops d c x y k ihx ihy ihk =>
   intro C h; rcases A3y h with h | rfl
   case inr => exact A97 _
   obtain ⟨r, hr, h⟩ := Option.bind_eq_some_iff.1 h; obtain ⟨c', hc, h⟩ := Option.bind_eq_some_iff.1 h; obtain ⟨X, hX, h⟩ := Option.bind_eq_some_iff.1 h; obtain ⟨Y, hY, h⟩ := Option.bind_eq_some_iff.1 h; obtain ⟨K, hK, rfl⟩ := Option.map_eq_some_iff.1 h; exact C4g hm hvs hr hc (ihx X hX) (ihy Y hY) (ihk K hK)
 | case4 id ops d c x y ihx ihy =>
   intro C h; rcases A3y h with h | rfl
   case inr => exact A97 _
   obtain ⟨r, hr, h⟩ := Option.bind_eq_some_iff.1 h; obtain ⟨c', hc, h⟩ := Option.bind_eq_some_iff.1 h; obtain ⟨X, hX, h⟩ := Option.bind_eq_some_iff.1 h; obtain ⟨Y, hY, rfl⟩ := Option.map_eq_some_iff.1 h; exact C3n hm hvs hr hc (ihx X hX) (ihy Y hY)
 | case5 x y h1 h2 ihx ihy =>
   intro C h; rw [R6] at h
   ·obtain ⟨X, hX, h⟩ := Option.bind_eq_some_iff.1 h; obtain ⟨Y, hY, rfl⟩ := Option.map_eq_some_iff.1 h; exact D32 (ihx X hX) (ihy Y hY)
   ·exact h1
   ·exact h2
 | case6 c x y ihx ihy =>
   intro C h; rcases A3y h with h | rfl
   case inr => exact A97 _
   obtain ⟨c', hc, h⟩ := Option.bind_eq_some_iff.1 h; obtain ⟨X, hX, h⟩ := Option.bind_eq_some_iff.1 h; obtain ⟨Y, hY, rfl⟩ := Option.map_eq_some_iff.1 h; exact D12 hc (ihx X hX) (ihy Y hY)
 | case7 id x ihx =>
   intro C h; obtain ⟨X, hX, rfl⟩ := Option.map_eq_some_iff.1 h; exact C93 (ihx X hX)
 | case8 x ihx =>
   intro C h; obtain ⟨X, hX, rfl⟩ := Option.map_eq_some_iff.1 h; exact D14 (ihx X hX)
 | case9 id => intro C h; cases h; intro Q e H H0 β β0 a w w0 hs hw hf hA; exact wp_exit ⟨e, H, β, hA, hs, hw, hf⟩
 | case10 => intro C h; cases h; intro Q e H H0 β β0 a w w0 hs hw hf hA; exact wp_ret ⟨e, H, β, hA, hs, hw, hf⟩
 | case11 t h1 h2 h3 h4 h5 h6 h7 h8 h9 h10 =>
   intro C h; cases t <;> first
    | exact (h1 rfl).elim
    | exact (h2 _ _ _ rfl).elim
    | exact (h5 _ _ rfl).elim
    | exact (h6 _ _ _ rfl).elim
    | exact (h7 _ _ rfl).elim
    | exact (h8 _ rfl).elim
    | exact (h9 _ rfl).elim
    | exact (h10 rfl).elim
    | (simp [R6] at h; subst h; exact A97 _)
def B6f : List Nat → Bool
 | [] => true
 | x :: l => !Z3 l x && B6f l
theorem C0r : ∀ {l : List Nat}, B6f l = true → l.Nodup
 | [], _ => List.nodup_nil
 | x :: l, h => by
   simp only [B6f, Bool.and_eq_true, Bool.not_eq_true'] at h; refine List.nodup_cons.2 ⟨fun hm => ?_, C0r h.2⟩; rw [K6.2 hm] at h; cases h.1
inductive B0t where
 | v (i : Nat)
 | c1 (i : Nat)
 | cN (i n : Nat)
def A6m (P : Program) (vs : List Nat) : List ResultVar → Option (List B0t)
 | [] => some []
 | .tmp s :: l => (Q2 vs s).bind fun i => (A6m P vs l).map fun r => .v i :: r
 | .cell s t :: l => (Q2 vs s).bind fun i => (d7 P t).bind fun g => (P.info? t).bind fun k => (A6m P vs l).map fun r => (if g then .cN i k.size else .c1 i) :: r
def R7 (H : A1) (e : List Value) : B0t → Option Value
 | .v i => some (gv e i)
 | .c1 i => F5 H (gv e i)
 | .cN i n => D5 H n (gv e i)
def B3y (H : A1) (e : List Value) : List B0t → Option (List Value)
 | [] => some []
 | r :: l => (R7 H e r).bind fun v => (B3y H e l).map fun vs => v :: vs
def A1q (H : A1) (e : List Value) : List B0t → Option Value
 | [r] => R7 H e r
 | l => (B3y H e l).map fun vs => .tuple vs.toArray
structure D4 (P : Program) (f : FuncId) (vs : List Nat) (np : Nat) (C : C1) (rs : List B0t) : Prop where
 ex : ∃ (fn : Func) (c : Code), P.funcs[f]? = some fn ∧ fn.name ≠ "runtime.NumGoroutine" ∧ fn.body = some c ∧ R6 P vs fn.ntmps c = some C ∧ A6m P vs fn.results.toList = some rs ∧
  np ≤ fn.ntmps ∧ (vs.all fun s => Nat.blt s fn.ntmps) = true
 nodup : B6f vs = true
 mixed : P.follows .mixedOrders = true
theorem D4.enter {f np : Nat} {vs : List Nat} {C : C1} {rs : List B0t} (h : D4 P f vs np C rs) : A6t P f := by
 obtain ⟨fn, c, h1, h2, h3, _⟩ := h.ex; exact ⟨fn, h1, h2, by rw [h3]; rfl⟩
def gu : List Value → Nat → Value
 | [], _ => undef
 | v :: _, 0 => v
 | _ :: l, n + 1 => gu l n
theorem D2n : ∀ (l : List Value) (s : Nat), gu l s = l.getD s undef
 | [], s => by simp [gu]
 | v :: l, 0 => rfl
 | v :: l, n + 1 => by rw [gu, D2n l n]; rfl
def A7p : List Nat → List Value → List Value
 | [], _ => []
 | s :: vs, args => gu args s :: A7p vs args
theorem C0x : ∀ (vs : List Nat) (args : List Value), A7p vs args = vs.map fun s => args.getD s undef
 | [], _ => rfl
 | s :: vs, args => by rw [A7p, C0x vs args, D2n]; rfl
theorem C9b (f : Nat → Value) : ∀ (l : List Nat) (i s : Nat), l[i]? = some s → gv (l.map f) i = f s
 | [], i, s, h => by simp at h
 | x :: l, 0, s, h => by simp at h; subst h; rfl
 | x :: l, i + 1, s, h => C9b f l i s (by simpa using h)
theorem C0q {fn : Func} {rs : List B0t} {v : Value} (hs : St vs [] n β e [] a) (hw : WR lim β H w) (h : A6m P vs fn.results.toList = some rs) (hr : A1q H e rs = some v) : ∃ v', (results fn a.tmps).run P w = .ok v' w ∧ VR β v v' := by
 have key : ∀ (l : List ResultVar) (rs : List B0t) (us : List Value), A6m P vs l = some rs → B3y H e rs = some us →
  ∃ l' : List Value, (l.mapM fun
   | .tmp t => pure (a.tmps.getD t undef)
   | .cell x t => do loadVar t (← asAddr (a.tmps.getD x undef)) : Sem (List Value)).run P w = .ok l' w ∧ VRs β us l' := by
  intro l
  induction l with
  | nil => intro rs us h hr; cases h; cases hr; exact ⟨[], by simp, VRs.nil β⟩
  | cons x l ih =>
    intro rs us h hr; cases x with
    | cell s t =>
      simp only [A6m] at h; obtain ⟨i, hi, h⟩ := Option.bind_eq_some_iff.1 h; obtain ⟨g, hg, h⟩ := Option.bind_eq_some_iff.1 h; obtain ⟨k, hk, h⟩ := Option.bind_eq_some_iff.1 h; obtain ⟨r, hr', rfl⟩ := Option.map_eq_some_iff.1 h; simp only [B3y] at hr; obtain ⟨u, hu, hr⟩ := Option.bind_eq_some_iff.1 hr; obtain ⟨us', hus, rfl⟩ := Option.map_eq_some_iff.1 hr; obtain ⟨l', k1, k2⟩ := ih r us' hr' hus; have hv := hs.env i s (Q3 hi); have one : ∃ u', (do loadVar t (← asAddr (a.tmps.getD s undef)) : Sem Value).run P w = .ok u' w ∧ VR β u u' := by
       cases g with
       | true =>
         simp only [if_true, R7, D5] at hu; split at hu
         ·rename_i b o he; rw [he] at hv; obtain ⟨ls, hls, rfl⟩ := Option.map_eq_some_iff.1 hu; obtain ⟨u', g1, g2⟩ := C23 hg hk hw hls hv; generalize a.tmps.getD s undef = q at hv g1 ⊢; cases hv with
          | ptr hβ => exact ⟨u', by simpa [Instr.loadAt, Instr.sureAddr, asAddr] using g1, g2⟩
         ·cases hu
       | false =>
         simp only [Bool.false_eq_true, if_false, R7, F5] at hu; split at hu
         ·rename_i b o he; rw [he] at hv; obtain ⟨u', g1, g2⟩ := C24 hg hw hu hv; generalize a.tmps.getD s undef = q at hv g1 ⊢; cases hv with
          | ptr hβ => exact ⟨u', by simpa [Instr.loadAt, Instr.sureAddr, asAddr] using g1, g2⟩
         ·cases hu
      obtain ⟨u', g1, g2⟩ := one; refine ⟨u' :: l', ?_, VRs.cons g2 k2⟩; rw [List.mapM_cons]; simp only [Sem.run_bind, Sem.run_pure] at g1 ⊢; rw [g1]; simp only [Result.andThen_ok, k1]
    | tmp s =>
      simp only [A6m] at h; obtain ⟨i, hi, h⟩ := Option.bind_eq_some_iff.1 h; obtain ⟨r, hr', rfl⟩ := Option.map_eq_some_iff.1 h; simp only [B3y, R7, Option.bind_some] at hr; obtain ⟨us', hus, rfl⟩ := Option.map_eq_some_iff.1 hr; obtain ⟨l', k1, k2⟩ := ih r us' hr' hus; refine ⟨a.tmps.getD s undef :: l', ?_, VRs.cons (hs.env i s (Q3 hi)) k2⟩; simp only [List.mapM_cons, Sem.run_bind, Sem.run_pure, Result.andThen_ok, k1]
 have hone : ∃ us, B3y H e rs = some us ∧ v = (match us with | [u] => u | us => .tuple us.toArray) := by
  unfold A1q at hr; split at hr
  ·rename_i r; exact ⟨[v], by simp [B3y, hr], rfl⟩
  ·rename_i hne; obtain ⟨us, hus, rfl⟩ := Option.map_eq_some_iff.1 hr; refine ⟨us, hus, ?_⟩; split
   ·rename_i u
    exfalso
    match rs, hus, hne with
    | [], hus, _ => cases hus
    | [r], _, hne => exact hne r rfl
    | r :: r2 :: l, hus, _ =>
      simp only [B3y] at hus; obtain ⟨_, _, hus⟩ := Option.bind_eq_some_iff.1 hus; obtain ⟨z, hz, hus⟩ := Option.map_eq_some_iff.1 hus; obtain ⟨_, _, hz⟩ := Option.bind_eq_some_iff.1 hz; obtain ⟨z2, _, rfl⟩ := Option.map_eq_some_iff.1 hz; simp at hus
   ·rfl
 obtain ⟨us, hus, rfl⟩ := hone; obtain ⟨l', k1, k2⟩ := key _ _ us h hus; have k3 : (fn.results.mapM fun
  | .tmp t => pure (a.tmps.getD t undef)
  | .cell x t => do loadVar t (← asAddr (a.tmps.getD x undef)) : Sem (Array Value)).run P w = .ok l'.toArray w := by
  rw [Array.mapM_eq_mapM_toList]; simp only [Sem.run_map, k1, Result.andThen_ok]
 refine ⟨if h : l'.toArray.size = 1 then l'.toArray[0] else .tuple l'.toArray, ?_, ?_⟩
 ·unfold results; simp only [Sem.run_bind, Sem.run_pure]; exact congrArg (fun r => Result.andThen r (fun (a : Array Value) w' => Result.ok (if h : a.size = 1 then a[0] else Value.tuple a) w')) k3
 ·have hl := k2.1
  match us, l', hl, k2 with
  | [], [], _, _ => exact .tuple rfl (by intro i v v' h; simp at h)
  | [i], [x], _, k2 => exact k2.of_cons.1
  | i :: j :: r, x :: y :: m, hl, k2 =>
    have : ¬ ((x :: y :: m).toArray.size = 1) := by simp
    rw [dif_neg this]; refine .tuple (by simpa using hl) ?_; intro k v v' h1 h2; exact k2.2 k v v' (by simpa using h1) (by simpa using h2)
theorem D4.calls {f np : Nat} {vs : List Nat} {C : C1} {rs : List B0t} (h : D4 P f vs np C rs) {args : List Value} {R : Value → A1 → Prop} (hargs : args.length = np)
 (hA : awp P lim C (fun ex e' H' => (ex = .normal ∨ ex = .ret) ∧ ∃ v, A1q H' e' rs = some v ∧ R v H') (A7p vs args) H) : A5 P lim f args H R := by
 refine .inl ⟨h.enter, ?_⟩; intro β w args' hw hv; obtain ⟨fn, c, h1, h2, h3, h4, h5, h6, h7⟩ := h.ex; have hsz : args'.size = np := by have := hv.1; simp at this; omega
 have hs : St vs [] fn.ntmps β (A7p vs args) [] { tmps := args' ++ Array.replicate (fn.ntmps - args'.size) undef, defers := [] } := by
  refine ⟨by simp; omega, rfl, ?_, by simp [C0x], rfl, ?_, by intro i s hi; simp at hi⟩
  ·intro s hs; have := List.all_eq_true.1 h7 s hs; simpa using this
  ·intro i s hi; have : gv (A7p vs args) i = args.getD s undef := by rw [C0x]; exact C9b _ vs i s hi
   rw [this]; by_cases hlt : s < args.length
   ·have hlt' : s < args'.size := by omega
    have e1 : args.getD s undef = args[s] := by simp [List.getD, hlt]
    have e2 : (args' ++ Array.replicate (fn.ntmps - args'.size) undef).getD s undef = args'[s] := by
     simp [Array.getD_eq_getD_getElem?, Array.getElem?_append, hlt']
    rw [e1, e2]; exact hv.2 s _ _ (by simp [hlt]) (by simp [hlt'])
   ·have hlt' : ¬ s < args'.size := by omega
    have e1 : args.getD s undef = undef := by simp [List.getD, List.getElem?_eq_none (Nat.le_of_not_lt hlt)]
    have e2 : (args' ++ Array.replicate (fn.ntmps - args'.size) undef).getD s undef = undef := by
     simp only [Array.getD_eq_getD_getElem?, Array.getElem?_append, if_neg hlt', Array.getElem?_replicate]; split <;> rfl
    rw [e1, e2]; exact VR.undef β
 refine calls_of_wp h1 h3 (wp_mono (D15 h.mixed (C0r h.nodup) c C h4 _ _ H H β β _ w w hs hw (Fr.refl _ _ _ _) hA) ?_); intro ex a' w' hq; cases ex with
 | normal =>
   obtain ⟨e', H', β', ⟨_, v, hv, hR⟩, k2, k3, k4⟩ := hq; obtain ⟨v', g1, g2⟩ := C0q (P := P) (w := w') k2 k3 h5 hv; exact ⟨k2.defers, v', g1, _, v', H', β', rfl, hR, g2, k3, k4⟩
 | ret =>
   obtain ⟨e', H', β', ⟨_, v, hv, hR⟩, k2, k3, k4⟩ := hq; obtain ⟨v', g1, g2⟩ := C0q (P := P) (w := w') k2 k3 h5 hv; exact ⟨k2.defers, v', g1, _, v', H', β', rfl, hR, g2, k3, k4⟩
 | exit id =>
   obtain ⟨e', H', β', ⟨h0, _⟩, _⟩ := hq; rcases h0 with h0 | h0 <;> cases h0
 | goto l =>
   obtain ⟨e', H', β', ⟨h0, _⟩, _⟩ := hq; rcases h0 with h0 | h0 <;> cases h0
 | panic c => exact hq.elim
 | outgrown => exact hq.elim
end
end Go.Ab
