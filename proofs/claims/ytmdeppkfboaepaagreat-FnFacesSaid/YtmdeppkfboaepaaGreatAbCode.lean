/- A part of the proof of a statement of this seat: the program logic; no condition. -/
import Derived.Test.YtmdeppkfboaepaaGreatAbEff
namespace Go.Ab
set_option linter.unusedVariables false
set_option linter.unusedSimpArgs false
inductive AOp where
 | pure (p : POp)
 | eff (x : EOp)
 | call (nw : Bool) (f : Opd) (args : List Opd)
structure D9 where
 op : AOp
 dst : Option Nat := none
 guard : Option (Opd × Bool) := none
def A6t (P : Program) (f : FuncId) : Prop := ∃ fn, P.funcs[f]? = some fn ∧ fn.name ≠ "runtime.NumGoroutine" ∧ fn.body.isSome = true
theorem C8i {β : Inj} {v v' : Value} (h : VR β v v') (hc : M0 v = true) : v' = v := by
 cases h <;> first | rfl | (simp [M0] at hc; done)
theorem B3x {β : Inj} : ∀ {l l' : List Value}, VRs β l l' → l.all M0 = true → l' = l
 | [], [], _, _ => rfl
 | [], _ :: _, h, _ => by have := h.1; simp at this
 | _ :: _, [], h, _ => by have := h.1; simp at this
 | x :: l, y :: l', h, hc => by
   simp only [List.all_cons, Bool.and_eq_true] at hc; obtain ⟨h1, h2⟩ := h.of_cons; rw [C8i h1 hc.1, B3x h2 hc.2]
def D1t (P : Program) (f : FuncId) (args : List Value) (H : A1) (R : Value → A1 → Prop) : Prop :=
 args.all M0 = true ∧ ∃ v, (∀ β, VR β v v) ∧ (∀ w, (callFunc f args.toArray).run P w = .ok (.value v) w) ∧ R v H
def B2k (P : Program) (lim : Nat) (f : FuncId) (args : List Value) (H : A1) (R : Value → A1 → Prop) : Prop :=
 A6t P f ∧ ∀ (β : Inj) (w : World) (args' : Array Value), WR lim β H w → VRs β args args'.toList →
  Calls P f args' w fun e w' => ∃ v v' H' β', e = .returned v' ∧ R v H' ∧ VR β' v v' ∧ WR lim β' H' w' ∧ Fr lim H β w H' β' w'
def A5 (P : Program) (lim : Nat) (f : FuncId) (args : List Value) (H : A1) (R : Value → A1 → Prop) : Prop :=
 B2k P lim f args H R ∨ D1t P f args H R
theorem B2k.mono {P : Program} {lim : Nat} {f : FuncId} {args : List Value} {H : A1} {R R' : Value → A1 → Prop} (h : B2k P lim f args H R) (hr : ∀ v H', R v H' → R' v H') : B2k P lim f args H R' :=
 ⟨h.1, fun β w args' hw hv => (h.2 β w args' hw hv).mono fun e w' ⟨v, v', H', β', a, b, c⟩ => ⟨v, v', H', β', a, hr _ _ b, c⟩⟩
theorem D1t.mono {P : Program} {f : FuncId} {args : List Value} {H : A1} {R R' : Value → A1 → Prop} (h : D1t P f args H R) (hr : ∀ v, R v H → R' v H) : D1t P f args H R' := by
 obtain ⟨h0, v, h1, h2, h3⟩ := h; exact ⟨h0, v, h1, h2, hr v h3⟩
theorem A5.mono {P : Program} {lim : Nat} {f : FuncId} {args : List Value} {H : A1} {R R' : Value → A1 → Prop} (h : A5 P lim f args H R) (hr : ∀ v H', R v H' → R' v H') : A5 P lim f args H R' :=
 h.imp (fun h => h.mono hr) (fun h => h.mono fun v => hr v H)
structure Ext (H H' : A1) : Prop where
 next : H.next ≤ H'.next
 blk : ∀ b, b < H.next → H'.blk b = H.blk b
theorem Ext.refl (H : A1) : Ext H H := ⟨Nat.le_refl _, fun _ _ => rfl⟩
theorem Ext.trans {H H1 H2 : A1} (h : Ext H H1) (k : Ext H1 H2) : Ext H H2 := ⟨Nat.le_trans h.next k.next, fun b hb => (k.blk b (Nat.lt_of_lt_of_le hb h.next)).trans (h.blk b hb)⟩
theorem A5.weaken {P : Program} {lim : Nat} {f : FuncId} {args : List Value} {H : A1} {R : Value → A1 → Prop} (h : A5 P H.next f args H R) :
 A5 P lim f args H fun v H' => R v H' ∧ Ext H H' := by
 rcases h with h | h
 ·refine .inl ⟨h.1, fun β w args' hw hv => (h.2 β w args' (hw.raise hw.bnd (Nat.le_refl _)) hv).mono ?_⟩; intro e w' ⟨v, v', H', β', h1, h2, h3, h4, h5⟩; exact ⟨v, v', H', β', h1, ⟨h2, h5.next, h5.low⟩, h3, hw.weaken h5 h4, h5.weaken hw.bnd hw⟩
 ·exact .inr (h.mono fun v h => ⟨h, Ext.refl H⟩)
def I8 (e : List Value) (d : Option Nat) (v : Value) : List Value :=
 match d with
 | some i => e.set i v
 | none => e
def Y2 (o : D9) (e t : List Value) : Option Bool :=
 match o.guard with
 | none => some true
 | some (x, want) => match x.ev e t with
   | .bool b => some (b == want)
   | .tuple cs => if cs.size = 0 then some false else none
   | _ => none
def A7w (P : Program) (lim : Nat) (o : AOp) (e t : List Value) (H : A1) (K : Value → A1 → Prop) : Prop :=
 match o with
 | .pure p => ∃ v, p.ev H e t = some v ∧ K v H
 | .eff x => ∃ v H', x.ev lim H e t = some (v, H') ∧ K v H'
 | .call nw f args => ∃ g cs, f.ev e t = .func (.func g) #[] cs ∧ A5 P (if nw then H.next else lim) g (args.map (·.ev e t) ++ cs.toList) H K
def D8 (P : Program) (lim : Nat) : List D9 → (List Value → List Value → A1 → Prop) → List Value → List Value → A1 → Prop
 | [], Q, e, t, H => Q e t H
 | o :: l, Q, e, t, H => ∃ g, Y2 o e t = some g ∧
  if g then A7w P lim o.op e t H (fun v H' => D8 P lim l Q (I8 e o.dst v) (v :: t) H')
  else D8 P lim l Q (I8 e o.dst undef) (undef :: t) H
def Q2 : List Nat → Nat → Option Nat
 | [], _ => none
 | x :: l, s => bif Nat.beq x s then some 0 else (Q2 l s).map (· + 1)
theorem Q3 : ∀ {l : List Nat} {s i : Nat}, Q2 l s = some i → l[i]? = some s
 | [], s, i, h => by cases h
 | x :: l, s, i, h => by
   simp only [Q2] at h; cases hb : Nat.beq x s with
   | true => rw [hb] at h; cases h; simp [Nat.eq_of_beq_eq_true hb]
   | false =>
     rw [hb] at h; obtain ⟨j, hj, rfl⟩ := Option.map_eq_some_iff.1 h; simpa using Q3 hj
theorem W0 : ∀ {l : List Nat} {s : Nat}, Q2 l s = none → s ∉ l
 | [], s, h => by simp
 | x :: l, s, h => by
   simp only [Q2] at h; cases hb : Nat.beq x s with
   | true => rw [hb] at h; cases h
   | false =>
     rw [hb] at h; have := W0 (l := l) (s := s) (by simpa using h); simp only [List.mem_cons, not_or]; exact ⟨fun e => by subst e; simp at hb, this⟩
def A0k (n : Nat) (vs ts : List Nat) : Operand → Option Opd
 | .tmp s => if s < n then match Q2 ts s with
   | some i => some (.t i)
   | none => (Q2 vs s).map .v
   else none
 | .const v => if M0 v = true then some (.c v) else none
 | .func f => some (.f f)
 | .global _ => none
def A2f (n : Nat) (ops : Array Oper) (ts : List Nat) (o : Oper) : Option (Option (Opd × Bool)) :=
 match o.guard with
 | none => some none
 | some (j, want) => (ops[j]?).bind fun oj => oj.dst.bind fun s => if s < n then (Q2 ts s).map fun i => some (.t i, want) else none
def C61 : Op → Bool
 | .load .. => true
 | _ => false
def C84 (P : Program) : Opd → Bool
 | .f g => match P.funcs[g]? with
   | some fn => match fn.params[0]? with
     | some t => match P.underlying t with
       | some (.pointer _) => true
       | _ => false
     | none => false
   | none => false
 | _ => false
def C5r (P : Program) (n : Nat) (vs ts : List Nat) (nw : Bool) (o : Oper) : Option AOp :=
 match trP P (A0k n vs ts) o.op with
 | some p => some (if nw && C61 o.op then .eff (.rd p) else .pure p)
 | none => match trE P (A0k n vs ts) o.op with
   | some x => some (.eff x)
   | none => match o.op with
     | .call c => match c.callee with
       | .value f => (A0k n vs ts f).bind fun f => if nw && C84 P f then none else (C2v (A0k n vs ts) c.args.toList).map fun as => .call nw f as
       | _ => none
     | _ => none
def D1 (n : Nat) (o : Oper) : Nat := o.dst.getD n
def B07 (P : Program) (vs : List Nat) (n : Nat) (ops : Array Oper) (nwf : Nat → Bool) : List Nat → List Nat → Option (List D9 × List Nat)
 | [], ts => some ([], ts)
 | i :: l, ts => (ops[i]?).bind fun o => (A2f n ops ts o).bind fun g => (C5r P n vs ts (nwf i) o).bind fun a =>
  if D1 n o ≤ n ∧ (o.dst.isSome = true → D1 n o < n ∧ Q2 ts (D1 n o) = none) then
   (B07 P vs n ops nwf l (D1 n o :: ts)).map fun r => (⟨a, o.dst.bind (Q2 vs), g⟩ :: r.1, r.2)
  else none
structure St (vs ts : List Nat) (n : Nat) (β : Inj) (e t : List Value) (a : Act) : Prop where
 size : a.tmps.size = n
 defers : a.defers = []
 vlt : ∀ s ∈ vs, s < n
 len : e.length = vs.length
 tlen : t.length = ts.length
 env : ∀ (i s : Nat), vs[i]? = some s → VR β (gv e i) (a.tmps.getD s undef)
 tmp : ∀ (i s : Nat), ts[i]? = some s → s < n → VR β (gv t i) (a.tmps.getD s undef)
theorem A5p : ∀ (l : List Value) (i : Nat) (v : Value), i < l.length → gv (l.set i v) i = v
 | [], i, v, h => by simp at h
 | x :: l, 0, v, h => rfl
 | x :: l, i + 1, v, h => A5p l i v (by simpa using h)
theorem B2e : ∀ (l : List Value) (i j : Nat) (v : Value), i ≠ j → gv (l.set i v) j = gv l j
 | [], i, j, v, h => rfl
 | x :: l, 0, 0, v, h => absurd rfl h
 | x :: l, 0, j + 1, v, h => rfl
 | x :: l, i + 1, 0, v, h => rfl
 | x :: l, i + 1, j + 1, v, h => B2e l i j v (by omega)
section
variable {P : Program} {lim n : Nat} {vs ts : List Nat} {β : Inj} {e t : List Value} {a : Act}
theorem St.mono {β' : Inj} (h : St vs ts n β e t a) (hle : Le β β') : St vs ts n β' e t a :=
 ⟨h.size, h.defers, h.vlt, h.len, h.tlen, fun i s hs => (h.env i s hs).mono hle, fun i s hs hn => (h.tmp i s hs hn).mono hle⟩
theorem St.ren (h : St vs ts n β e t a) {x : Operand} {y : Opd} (hx : A0k n vs ts x = some y) : VR β (y.ev e t) (a.eval x) := by
 cases x with
 | tmp s =>
   simp only [A0k] at hx; split at hx
   ·rename_i hsn; split at hx
    ·rename_i i hi; cases hx; exact h.tmp i s (Q3 hi) hsn
    ·obtain ⟨i, hi, rfl⟩ := Option.map_eq_some_iff.1 hx; exact h.env i s (Q3 hi)
   ·cases hx
 | const v =>
   simp only [A0k] at hx; split at hx
   ·rename_i hc; cases hx; exact VR.closed hc
   ·cases hx
 | func f => cases hx; exact .func rfl (by intro i v v' h; simp at h)
 | global g => cases hx
theorem St.put (h : St vs ts n β e t a) {o : Oper} {v v' : Value} (hv : VR β v v') (hvs : vs.Nodup)
 (hs : o.dst.isSome = true → D1 n o < n ∧ Q2 ts (D1 n o) = none) :
 St vs (D1 n o :: ts) n β (I8 e (o.dst.bind (Q2 vs)) v) (v :: t) (a.put o.dst v') := by
 cases hd : o.dst with
 | none =>
   have hsl : D1 n o = n := by simp [D1, hd]
   refine ⟨by simpa [Act.put] using h.size, by simpa [Act.put] using h.defers, h.vlt, by simpa [I8] using h.len, by simpa using h.tlen, ?_, ?_⟩
   ·intro i s hi; simpa [I8, Act.put] using h.env i s hi
   ·intro i s hi hsn; cases i with
    | zero =>
      simp only [List.getElem?_cons_zero, Option.some.injEq] at hi; omega
    | succ i => simpa [Act.put, gv] using h.tmp i s (by simpa using hi) hsn
 | some d =>
   have hsl : D1 n o = d := by simp [D1, hd]
   obtain ⟨hlt, hnot⟩ := hs (by simp [hd]); rw [hsl] at hlt hnot; have hget : ∀ s, (a.tmps.setIfInBounds d v').getD s undef = if s = d then v' else a.tmps.getD s undef := by
    intro s; by_cases hsd : s = d
    ·subst hsd; simp [Array.getD, h.size, hlt]
    ·rw [if_neg hsd]; simp only [Array.getD_eq_getD_getElem?, Array.getElem?_setIfInBounds, if_neg (Ne.symm hsd)]
   refine ⟨by simpa [Act.put] using h.size, by simpa [Act.put] using h.defers, h.vlt, ?_, by simpa using h.tlen, ?_, ?_⟩
   ·unfold I8; split <;> simp [h.len]
   ·intro i s hi; simp only [Act.put, hget, Option.bind_some]; cases hx : Q2 vs d with
    | none =>
      have hne : s ≠ d := fun hsd => W0 hx (hsd ▸ List.mem_of_getElem? hi)
      rw [if_neg hne]; exact h.env i s hi
    | some k =>
      have hk := Q3 hx; simp only [I8]; by_cases hki : k = i
      ·subst hki; have : s = d := by rw [hk] at hi; cases hi; rfl
       subst this; rw [if_pos rfl, A5p _ _ _ (by rw [h.len]; exact (List.getElem?_eq_some_iff.1 hk).1)]; exact hv
      ·rw [B2e _ _ _ _ hki]; have hne : s ≠ d := fun hsd => by
        subst hsd; have h1 := (List.getElem?_eq_some_iff.1 hk); have h2 := (List.getElem?_eq_some_iff.1 hi); obtain ⟨l1, e1⟩ := h1; obtain ⟨l2, e2⟩ := h2; exact hki ((List.getElem_inj hvs).1 (e1.trans e2.symm))
       rw [if_neg hne]; exact h.env i s hi
   ·intro i s hi hsn; simp only [Act.put, hget]; cases i with
    | zero =>
      rw [hsl] at hi; simp only [List.getElem?_cons_zero, Option.some.injEq] at hi; subst hi; rw [if_pos rfl]; exact hv
    | succ i =>
      have hi' : ts[i]? = some s := by simpa using hi
      have hne : s ≠ d := fun hsd => W0 hnot (hsd ▸ List.mem_of_getElem? hi')
      rw [if_neg hne]; exact h.tmp i s hi' hsn
theorem j8 {o : Oper} {w : World} {next : Act → World → Prop} {Q : Exit → Act → World → Prop} {v' : Value} {w' : World}
 (hr : (execOp a.eval o).run P w = .ok (.value v') w') (hn : next (a.put o.dst v') w') : o.wp P a w next Q := by
 unfold Oper.wp; rw [hr]; exact hn
theorem C4y {o : Oper} {w : World} {next : Act → World → Prop} {Q : Exit → Act → World → Prop} {w' : World}
 (hr : (execOp a.eval o).run P w = .ok .skip w') (hn : next (a.put o.dst undef) w') : o.wp P a w next Q := by
 unfold Oper.wp; rw [hr]; exact hn
def A0i : AOp → Bool
 | .pure _ => false
 | .eff (.box _) => false
 | .eff (.alloc _) => false
 | .eff (.bslice _ _ _) => false
 | .eff (.mkslice _ _ _ _) => false
 | .eff (.rd _) => false
 | .eff _ => true
 | .call nw _ _ => !nw
theorem Ext.alloc (H : A1) (cs : List Value) : Ext H (H.alloc cs) :=
 ⟨Nat.le_succ _, fun b hb => by simp [A1.alloc, Nat.ne_of_lt hb]⟩
theorem C6r {x : EOp} {H H' : A1} {v : Value} (hx : A0i (.eff x) = false) (h : x.ev lim H e t = some (v, H')) : Ext H H' := by
 cases x <;> simp only [A0i] at hx <;> try (cases hx; done)
 ·obtain ⟨cs, _, h⟩ := Option.map_eq_some_iff.1 h; cases h; exact Ext.alloc _ _
 ·cases h; exact Ext.alloc _ _
 ·obtain ⟨cs, _, h⟩ := Option.map_eq_some_iff.1 h; cases h; exact Ext.alloc _ _
 ·simp only [EOp.ev, A3l] at h; split at h
  ·split at h
   ·cases h; exact Ext.alloc _ _
   ·cases h
  ·cases h
 ·obtain ⟨u, _, h⟩ := Option.map_eq_some_iff.1 h; cases h; exact Ext.refl _
theorem D2o {o : Oper} {aop : AOp} {nw : Bool} {H : A1} {w : World} {K : Value → A1 → Prop} {next : Act → World → Prop} {Q : Exit → Act → World → Prop}
 (hop : C5r P n vs ts nw o = some aop) (hex : A7w P lim aop e t H K) (hw : WR lim β H w)
 (hren : ∀ x ∈ o.op.operands, ∀ y, A0k n vs ts x = some y → VR β (y.ev e t) (a.eval x))
 (hnext : ∀ v v' H' β' w', K v H' → VR β' v v' → WR lim β' H' w' → Fr lim H β w H' β' w' → (A0i aop = false → Ext H H') → next (a.put o.dst v') w') : o.wp P a w next Q := by
 unfold C5r at hop; split at hop
 ·rename_i p hp; cases hop; by_cases hrd : (nw && C61 o.op) = true
  ·rw [if_pos hrd] at hex; obtain ⟨v, H', hv, hK⟩ := hex; obtain ⟨u, hu, hv⟩ := Option.map_eq_some_iff.1 hv; cases hv; obtain ⟨v', h1, h2⟩ := C4p hp hw hren (fun _ => rfl) hu; exact j8 h1 (hnext v v' H β w hK h2 hw (Fr.refl _ _ _ _) (fun _ => Ext.refl _))
  ·rw [if_neg hrd] at hex; obtain ⟨v, hv, hK⟩ := hex; obtain ⟨v', h1, h2⟩ := C4p hp hw hren (fun _ => rfl) hv; exact j8 h1 (hnext v v' H β w hK h2 hw (Fr.refl _ _ _ _) (fun _ => Ext.refl _))
 ·split at hop
  ·rename_i x hx; cases hop; obtain ⟨v, H', hv, hK⟩ := hex; obtain ⟨w', β', h1, h2, h3⟩ := D3f hx hw hren hv; rcases h1 with ⟨v', h1, h4⟩ | ⟨h1, h4⟩
   ·exact j8 h1 (hnext v v' H' β' w' hK h4 h2 h3 (fun hx => C6r hx hv))
   ·exact C4y h1 (hnext v undef H' β' w' hK h4 h2 h3 (fun hx => C6r hx hv))
  ·split at hop
   ·rename_i c hc; split at hop
    ·rename_i f hf; obtain ⟨f1, hf1, hop⟩ := Option.bind_eq_some_iff.1 hop; split at hop
     ·cases hop
     obtain ⟨as, has, rfl⟩ := Option.map_eq_some_iff.1 hop; obtain ⟨g, cs, hg, hcalls⟩ := hex; rw [hc] at hren; have hf' := hren f (by simp [Op.operands, Call.operands, hf]) f1 hf1; rw [hg] at hf'; have has' := B6b (ρ := a.eval) (e := e) (t := t) has fun z hz => hren z (by simp [Op.operands, Call.operands]; right; simpa using hz)
     obtain ⟨cs', hcs1, hcs2⟩ : ∃ cs', a.eval f = .func (.func g) #[] cs' ∧ VRs β cs.toList cs'.toList := by
      generalize a.eval f = q at hf'; cases hf' with
      | func hs hcc => exact ⟨_, rfl, by simpa using hs, fun i v v' h1 h2 => hcc i v v' (by simpa using h1) (by simpa using h2)⟩
     have hargs : VRs β (as.map (·.ev e t) ++ cs.toList) (c.args.map a.eval ++ cs').toList := by
      have := has'.append hcs2; simpa using this
     rcases hcalls with ⟨⟨fn, hfn, hname, hbody⟩, hcall⟩ | ⟨hcl, v, hv1, hv2, hv3⟩
     ·have hrun : (execOp a.eval o).run P w = .ok (.enter g (c.args.map a.eval ++ cs')) w := by
       have hb : fn.body ≠ none := by intro h; rw [h] at hbody; cases hbody
       simp [execOp, hc, resolve, hf, Deferred.ofValue, hcs1, invoke, callFunc, program, Sem.run, hfn, hname, hb]
      unfold Oper.wp; rw [hrun]; simp only [Oper.upon]; have hdone : ∀ lim', lim ≤ lim' → WR lim' β H w → (∀ (β' : Inj) (H' : A1) (w' : World), WR lim' β' H' w' → Fr lim' H β w H' β' w' → WR lim β' H' w' ∧ Fr lim H β w H' β' w' ∧ (nw = true → Ext H H')) →
       B2k P lim' g (as.map (·.ev e t) ++ cs.toList) H K →
       Calls P g (c.args.map a.eval ++ cs') w (fun
        | .returned v, w'' => next (a.put o.dst v) w''
        | .panicked chain, w'' => Q (.panic chain) a w''
        | .outgrown, _ => LetsOut Q) := by
       intro lim' hl hw' hback hc'; refine (hc'.2 β w _ hw' hargs).mono ?_; intro en w'' ⟨v, v', H', β', h1, h2, h3, h4, h5⟩; subst h1; obtain ⟨b1, b2, b3⟩ := hback β' H' w'' h4 h5; exact hnext v v' H' β' w'' h2 h3 b1 b2 (fun hx => b3 (by simpa [A0i] using hx))
      cases nw with
      | false => exact hdone lim (Nat.le_refl _) hw (fun _ _ _ a b => ⟨a, b, by intro h; cases h⟩) ⟨⟨fn, hfn, hname, hbody⟩, hcall⟩
      | true =>
        exact hdone H.next hw.bnd (hw.raise hw.bnd (Nat.le_refl _)) (fun β' H' w' a b => ⟨hw.weaken b a, b.weaken hw.bnd hw, fun _ => ⟨b.next, b.low⟩⟩) ⟨⟨fn, hfn, hname, hbody⟩, hcall⟩
     ·have hcl2 := B3x hargs hcl; have hrun : (execOp a.eval o).run P w = .ok (.value v) w := by
       have e1 : (execOp a.eval o).run P w = (callFunc g (c.args.map a.eval ++ cs')).run P w := by
        simp [execOp, hc, resolve, hf, Deferred.ofValue, hcs1, invoke, Sem.run]
       have e2 : (c.args.map a.eval ++ cs') = (as.map (·.ev e t) ++ cs.toList).toArray := by
        rw [← hcl2]
       rw [e1, e2]; exact hv2 w
      exact j8 hrun (hnext v v H β w hv3 (hv1 β) hw (Fr.refl _ _ _ _) (fun _ => Ext.refl _))
    ·cases hop
   ·cases hop
theorem B50 {ops : Array Oper} {o : Oper} {ao : D9} {g : Bool} (h : A2f n ops ts o = some ao.guard) (hg : Y2 ao e t = some g)
 (htmp : ∀ (i s : Nat), ts[i]? = some s → s < n → s ∈ o.looksAt ops → VR β (gv t i) (a.tmps.getD s undef)) (hsz : a.tmps.size = n) :
 Region.wanted o (yielded ops a.tmps) = g := by
 unfold A2f at h; unfold Y2 at hg; unfold Region.wanted; cases hgd : o.guard with
 | none =>
   rw [hgd] at h; cases hh : ao.guard with
   | none => rw [hh] at hg; cases hg; rfl
   | some p => rw [hh] at h; cases h
 | some p =>
   obtain ⟨j, want⟩ := p; rw [hgd] at h; simp only at h; obtain ⟨oj, hj, h⟩ := Option.bind_eq_some_iff.1 h; obtain ⟨s, hs, h⟩ := Option.bind_eq_some_iff.1 h; split at h
   ·rename_i hsn; obtain ⟨i, hi, h⟩ := Option.map_eq_some_iff.1 h; rw [← h] at hg; simp only [Opd.ev] at hg; have hmem : s ∈ o.looksAt ops := by
     unfold Oper.looksAt; rw [hgd]; simp [hj, hs]
    have hv := htmp i s (Q3 hi) hsn hmem; split at hg
    ·rename_i b he; rw [he] at hv; have h1 := hv.bool_inv; have hlt : s < a.tmps.size := by rw [hsz]; assumption
     have h2 : a.tmps[s]? = some (.bool b) := by
      simp only [Array.getD_eq_getD_getElem?] at h1; rw [Array.getElem?_eq_getElem hlt] at h1 ⊢; simpa using h1
     have h3 : yielded ops a.tmps j = some b := by
      unfold yielded; simp [hj, hs, h2]
     simp only [h3]; cases hg; rfl
    ·rename_i cs he; split at hg
     ·rename_i hcs; cases hg; rw [he] at hv; have hlt : s < a.tmps.size := by rw [hsz]; assumption
      have hy : yielded ops a.tmps j = none := by
       unfold yielded; simp only [hj, hs, Option.bind_some]; generalize hv' : a.tmps.getD s undef = v' at hv; have h2 : a.tmps[s]? = some v' := by
        simp only [Array.getD_eq_getD_getElem?] at hv'; rw [Array.getElem?_eq_getElem hlt] at hv' ⊢; simpa using hv'
       rw [h2]; cases hv with
       | tuple _ _ => rfl
      simp only [hy]; rfl
     ·cases hg
    ·cases hg
   ·cases h
def C0t (lim n : Nat) (vs ts' : List Nat) (Q : List Value → List Value → A1 → Prop) (H0 : A1) (β0 : Inj) (w0 : World) : Exit → Act → World → Prop :=
 fun ex a' w' => ex = .normal ∧ ∃ e' t' H' β', Q e' t' H' ∧ St vs ts' n β' e' t' a' ∧ WR lim β' H' w' ∧ Fr lim H0 β0 w0 H' β' w'
theorem C4j (hvs : vs.Nodup) {ops : Array Oper} {nwf : Nat → Bool} {Q : List Value → List Value → A1 → Prop} {H0 : A1} {β0 : Inj} {w0 : World} {ts' : List Nat} :
 ∀ (order : List Nat) (ts : List Nat) (aops : List D9), B07 P vs n ops nwf order ts = some (aops, ts') → ∀ (e t : List Value) (H : A1) (β : Inj) (a : Act) (w : World),
  St vs ts n β e t a → WR lim β H w → Fr lim H0 β0 w0 H β w → D8 P lim aops Q e t H → wpOps P ops (C0t lim n vs ts' Q H0 β0 w0) order a w
 | [], ts, aops, h, e, t, H, β, a, w, hs, hw, hf, hA => by
   cases h; exact ⟨rfl, e, t, H, β, hA, hs, hw, hf⟩
 | i :: l, ts, aops, h, e, t, H, β, a, w, hs, hw, hf, hA => by
   simp only [B07] at h; obtain ⟨o, ho, h⟩ := Option.bind_eq_some_iff.1 h; obtain ⟨g, hg, h⟩ := Option.bind_eq_some_iff.1 h; obtain ⟨ao, hao, h⟩ := Option.bind_eq_some_iff.1 h; split at h
   ·rename_i hslot; obtain ⟨⟨rest, ts2⟩, hrest, h⟩ := Option.map_eq_some_iff.1 h; cases h; obtain ⟨gb, hgb, hA⟩ := hA; have hwant := B50 (β := β) (a := a) (ao := ⟨ao, o.dst.bind (Q2 vs), g⟩) hg hgb (fun i s h1 h2 _ => hs.tmp i s h1 h2) hs.size; simp only [wpOps, ho]; rw [hwant]; cases gb with
    | true =>
      simp only [if_true] at hA ⊢; refine .inl (D2o hao hA hw (fun x _ y hy => hs.ren hy) ?_); intro v v' H' β' w' hK hv hw' hf' _; exact C4j hvs l _ rest hrest _ _ H' β' _ w' ((hs.mono hf'.le).put hv hvs hslot.2) hw' (hf.trans hf') hK
    | false =>
      simp only [Bool.false_eq_true, if_false] at hA ⊢; exact C4j hvs l _ rest hrest _ _ H β _ w (hs.put (VR.undef β) hvs hslot.2) hw hf hA
   ·cases h
end
end Go.Ab
