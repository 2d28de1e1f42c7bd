/- The small language: its code, the translation, its predicate transformer; regions are sound. -/
import Derived.Test.YtmdeppkfboaepaaGreatAbEff
namespace Go.Ab
set_option linter.unusedVariables false
set_option linter.unusedSimpArgs false
inductive AOp where
 | pure (p : POp)
 | eff (x : EOp)
 | call (nw : Bool) (f : Opd) (args : List Opd)
structure AOper where
 op : AOp
 dst : Option Nat := none
 guard : Option (Opd × Bool) := none
def Enterable (P : Program) (f : FuncId) : Prop := ∃ fn, P.funcs[f]? = some fn ∧ fn.name ≠ "runtime.NumGoroutine" ∧ fn.body.isSome = true
theorem closed_eq {β : Inj} {v v' : Value} (h : VR β v v') (hc : closedV v = true) : v' = v := by
 cases h <;> first | rfl | (simp [closedV] at hc; done)
theorem closed_alls {β : Inj} : ∀ {l l' : List Value}, VRs β l l' → l.all closedV = true → l' = l
 | [], [], _, _ => rfl
 | [], _ :: _, h, _ => by have := h.1; simp at this
 | _ :: _, [], h, _ => by have := h.1; simp at this
 | x :: l, y :: l', h, hc => by
   simp only [List.all_cons, Bool.and_eq_true] at hc
   obtain ⟨h1, h2⟩ := h.of_cons
   rw [closed_eq h1 hc.1, closed_alls h2 hc.2]
def ExtA (P : Program) (f : FuncId) (args : List Value) (H : AHeap) (R : Value → AHeap → Prop) : Prop :=
 args.all closedV = true ∧ ∃ v, (∀ β, VR β v v) ∧ (∀ w, (callFunc f args.toArray).run P w = .ok (.value v) w) ∧ R v H
def BCalls (P : Program) (lim : Nat) (f : FuncId) (args : List Value) (H : AHeap) (R : Value → AHeap → Prop) : Prop :=
 Enterable P f ∧ ∀ (β : Inj) (w : World) (args' : Array Value), WR lim β H w → VRs β args args'.toList →
   Calls P f args' w fun e w' => ∃ v v' H' β', e = .returned v' ∧ R v H' ∧ VR β' v v' ∧ WR lim β' H' w' ∧ Fr lim H β w H' β' w'
def ACalls (P : Program) (lim : Nat) (f : FuncId) (args : List Value) (H : AHeap) (R : Value → AHeap → Prop) : Prop :=
 BCalls P lim f args H R ∨ ExtA P f args H R
theorem BCalls.mono {P : Program} {lim : Nat} {f : FuncId} {args : List Value} {H : AHeap} {R R' : Value → AHeap → Prop} (h : BCalls P lim f args H R) (hr : ∀ v H', R v H' → R' v H') : BCalls P lim f args H R' :=
 ⟨h.1, fun β w args' hw hv => (h.2 β w args' hw hv).mono fun e w' ⟨v, v', H', β', a, b, c⟩ => ⟨v, v', H', β', a, hr _ _ b, c⟩⟩
theorem ExtA.mono {P : Program} {f : FuncId} {args : List Value} {H : AHeap} {R R' : Value → AHeap → Prop} (h : ExtA P f args H R) (hr : ∀ v, R v H → R' v H) : ExtA P f args H R' := by
 obtain ⟨h0, v, h1, h2, h3⟩ := h
 exact ⟨h0, v, h1, h2, hr v h3⟩
theorem ACalls.mono {P : Program} {lim : Nat} {f : FuncId} {args : List Value} {H : AHeap} {R R' : Value → AHeap → Prop} (h : ACalls P lim f args H R) (hr : ∀ v H', R v H' → R' v H') : ACalls P lim f args H R' :=
 h.imp (fun h => h.mono hr) (fun h => h.mono fun v => hr v H)
structure Ext (H H' : AHeap) : Prop where
 next : H.next ≤ H'.next
 blk : ∀ b, b < H.next → H'.blk b = H.blk b
theorem Ext.refl (H : AHeap) : Ext H H := ⟨Nat.le_refl _, fun _ _ => rfl⟩
theorem Ext.trans {H H1 H2 : AHeap} (h : Ext H H1) (k : Ext H1 H2) : Ext H H2 := ⟨Nat.le_trans h.next k.next, fun b hb => (k.blk b (Nat.lt_of_lt_of_le hb h.next)).trans (h.blk b hb)⟩
theorem ACalls.weaken {P : Program} {lim : Nat} {f : FuncId} {args : List Value} {H : AHeap} {R : Value → AHeap → Prop} (h : ACalls P H.next f args H R) :
   ACalls P lim f args H fun v H' => R v H' ∧ Ext H H' := by
 rcases h with h | h
 · refine .inl ⟨h.1, fun β w args' hw hv => (h.2 β w args' (hw.raise hw.bnd (Nat.le_refl _)) hv).mono ?_⟩
   intro e w' ⟨v, v', H', β', h1, h2, h3, h4, h5⟩
   exact ⟨v, v', H', β', h1, ⟨h2, h5.next, h5.low⟩, h3, hw.weaken h5 h4, h5.weaken hw.bnd hw⟩
 · exact .inr (h.mono fun v h => ⟨h, Ext.refl H⟩)
def setD (e : List Value) (d : Option Nat) (v : Value) : List Value :=
 match d with
 | some i => e.set i v
 | none => e
def guardA (o : AOper) (e t : List Value) : Option Bool :=
 match o.guard with
 | none => some true
 | some (x, want) => match x.ev e t with
   | .bool b => some (b == want)
   | .tuple cs => if cs.size = 0 then some false else none
   | _ => none
def execA (P : Program) (lim : Nat) (o : AOp) (e t : List Value) (H : AHeap) (K : Value → AHeap → Prop) : Prop :=
 match o with
 | .pure p => ∃ v, p.ev H e t = some v ∧ K v H
 | .eff x => ∃ v H', x.ev lim H e t = some (v, H') ∧ K v H'
 | .call nw f args => ∃ g cs, f.ev e t = .func (.func g) #[] cs ∧ ACalls P (if nw then H.next else lim) g (args.map (·.ev e t) ++ cs.toList) H K
def awpOps (P : Program) (lim : Nat) : List AOper → (List Value → List Value → AHeap → Prop) → List Value → List Value → AHeap → Prop
 | [], Q, e, t, H => Q e t H
 | o :: l, Q, e, t, H => ∃ g, guardA o e t = some g ∧
     if g then execA P lim o.op e t H (fun v H' => awpOps P lim l Q (setD e o.dst v) (v :: t) H')
     else awpOps P lim l Q (setD e o.dst undef) (undef :: t) H
def idxN : List Nat → Nat → Option Nat
 | [], _ => none
 | x :: l, s => bif Nat.beq x s then some 0 else (idxN l s).map (· + 1)
theorem idxN_get : ∀ {l : List Nat} {s i : Nat}, idxN l s = some i → l[i]? = some s
 | [], s, i, h => by cases h
 | x :: l, s, i, h => by
   simp only [idxN] at h
   cases hb : Nat.beq x s with
   | true => rw [hb] at h; cases h; simp [Nat.eq_of_beq_eq_true hb]
   | false =>
     rw [hb] at h
     obtain ⟨j, hj, rfl⟩ := Option.map_eq_some_iff.1 h
     simpa using idxN_get hj
theorem idxN_none : ∀ {l : List Nat} {s : Nat}, idxN l s = none → s ∉ l
 | [], s, h => by simp
 | x :: l, s, h => by
   simp only [idxN] at h
   cases hb : Nat.beq x s with
   | true => rw [hb] at h; cases h
   | false =>
     rw [hb] at h
     have := idxN_none (l := l) (s := s) (by simpa using h)
     simp only [List.mem_cons, not_or]
     exact ⟨fun e => by subst e; simp at hb, this⟩
def renO (n : Nat) (vs ts : List Nat) : Operand → Option Opd
 | .tmp s => if s < n then match idxN ts s with
   | some i => some (.t i)
   | none => (idxN vs s).map .v
   else none
 | .const v => if closedV v = true then some (.c v) else none
 | .func f => some (.f f)
 | .global _ => none
def trGuard (n : Nat) (ops : Array Oper) (ts : List Nat) (o : Oper) : Option (Option (Opd × Bool)) :=
 match o.guard with
 | none => some none
 | some (j, want) => (ops[j]?).bind fun oj => oj.dst.bind fun s => if s < n then (idxN ts s).map fun i => some (.t i, want) else none
def isLoadB : Op → Bool
 | .load .. => true
 | _ => false
def ptrFirst (P : Program) : Opd → Bool
 | .f g => match P.funcs[g]? with
   | some fn => match fn.params[0]? with
     | some t => match P.underlying t with
       | some (.pointer _) => true
       | _ => false
     | none => false
   | none => false
 | _ => false
def trOp (P : Program) (n : Nat) (vs ts : List Nat) (nw : Bool) (o : Oper) : Option AOp :=
 match trP P (renO n vs ts) o.op with
 | some p => some (if nw && isLoadB o.op then .eff (.rd p) else .pure p)
 | none => match trE P (renO n vs ts) o.op with
   | some x => some (.eff x)
   | none => match o.op with
     | .call c => match c.callee with
       | .value f => (renO n vs ts f).bind fun f => if nw && ptrFirst P f then none else (listR (renO n vs ts) c.args.toList).map fun as => .call nw f as
       | _ => none
     | _ => none
def slotOf (n : Nat) (o : Oper) : Nat := o.dst.getD n
def trOps (P : Program) (vs : List Nat) (n : Nat) (ops : Array Oper) (nwf : Nat → Bool) : List Nat → List Nat → Option (List AOper × List Nat)
 | [], ts => some ([], ts)
 | i :: l, ts => (ops[i]?).bind fun o => (trGuard n ops ts o).bind fun g => (trOp P n vs ts (nwf i) o).bind fun a =>
     if slotOf n o ≤ n ∧ (o.dst.isSome = true → slotOf n o < n ∧ idxN ts (slotOf n o) = none) then
       (trOps P vs n ops nwf l (slotOf n o :: ts)).map fun r => (⟨a, o.dst.bind (idxN vs), g⟩ :: r.1, r.2)
     else none
structure St (vs ts : List Nat) (n : Nat) (β : Inj) (e t : List Value) (a : Act) : Prop where
 size : a.tmps.size = n
 defers : a.defers = []
 vlt : ∀ s ∈ vs, s < n
 len : e.length = vs.length
 tlen : t.length = ts.length
 env : ∀ (i s : Nat), vs[i]? = some s → VR β (gv e i) (a.tmps.getD s undef)
 tmp : ∀ (i s : Nat), ts[i]? = some s → s < n → VR β (gv t i) (a.tmps.getD s undef)
theorem gv_set_same : ∀ (l : List Value) (i : Nat) (v : Value), i < l.length → gv (l.set i v) i = v
 | [], i, v, h => by simp at h
 | x :: l, 0, v, h => rfl
 | x :: l, i + 1, v, h => gv_set_same l i v (by simpa using h)
theorem gv_set_ne : ∀ (l : List Value) (i j : Nat) (v : Value), i ≠ j → gv (l.set i v) j = gv l j
 | [], i, j, v, h => rfl
 | x :: l, 0, 0, v, h => absurd rfl h
 | x :: l, 0, j + 1, v, h => rfl
 | x :: l, i + 1, 0, v, h => rfl
 | x :: l, i + 1, j + 1, v, h => gv_set_ne l i j v (by omega)
section
variable {P : Program} {lim n : Nat} {vs ts : List Nat} {β : Inj} {e t : List Value} {a : Act}
theorem St.mono {β' : Inj} (h : St vs ts n β e t a) (hle : Le β β') : St vs ts n β' e t a :=
 ⟨h.size, h.defers, h.vlt, h.len, h.tlen, fun i s hs => (h.env i s hs).mono hle, fun i s hs hn => (h.tmp i s hs hn).mono hle⟩
theorem St.ren (h : St vs ts n β e t a) {x : Operand} {y : Opd} (hx : renO n vs ts x = some y) : VR β (y.ev e t) (a.eval x) := by
 cases x with
 | tmp s =>
   simp only [renO] at hx
   split at hx
   · rename_i hsn
     split at hx
     · rename_i i hi
       cases hx
       exact h.tmp i s (idxN_get hi) hsn
     · obtain ⟨i, hi, rfl⟩ := Option.map_eq_some_iff.1 hx
       exact h.env i s (idxN_get hi)
   · cases hx
 | const v =>
   simp only [renO] at hx
   split at hx
   · rename_i hc; cases hx; exact VR.closed hc
   · cases hx
 | func f => cases hx; exact .func rfl (by intro i v v' h; simp at h)
 | global g => cases hx
theorem St.put (h : St vs ts n β e t a) {o : Oper} {v v' : Value} (hv : VR β v v') (hvs : vs.Nodup)
   (hs : o.dst.isSome = true → slotOf n o < n ∧ idxN ts (slotOf n o) = none) :
   St vs (slotOf n o :: ts) n β (setD e (o.dst.bind (idxN vs)) v) (v :: t) (a.put o.dst v') := by
 cases hd : o.dst with
 | none =>
   have hsl : slotOf n o = n := by simp [slotOf, hd]
   refine ⟨by simpa [Act.put] using h.size, by simpa [Act.put] using h.defers, h.vlt, by simpa [setD] using h.len, by simpa using h.tlen, ?_, ?_⟩
   · intro i s hi
     simpa [setD, Act.put] using h.env i s hi
   · intro i s hi hsn
     cases i with
     | zero =>
       simp only [xgz, xsj] at hi
       omega
     | succ i => simpa [Act.put, gv] using h.tmp i s (by simpa using hi) hsn
 | some d =>
   have hsl : slotOf n o = d := by simp [slotOf, hd]
   obtain ⟨hlt, hnot⟩ := hs (by simp [hd])
   rw [hsl] at hlt hnot
   have hget : ∀ s, (a.tmps.setIfInBounds d v').getD s undef = if s = d then v' else a.tmps.getD s undef := by
     intro s
     by_cases hsd : s = d
     · subst hsd; simp [Array.getD, h.size, hlt]
     · rw [if_neg hsd]
       simp only [Array.getD_eq_getD_getElem?, Array.getElem?_setIfInBounds, if_neg (Ne.symm hsd)]
   refine ⟨by simpa [Act.put] using h.size, by simpa [Act.put] using h.defers, h.vlt, ?_, by simpa using h.tlen, ?_, ?_⟩
   · unfold setD
     split <;> simp [h.len]
   · intro i s hi
     simp only [Act.put, hget, Option.bind_some]
     cases hx : idxN vs d with
     | none =>
       have hne : s ≠ d := fun hsd => idxN_none hx (hsd ▸ List.mem_of_getElem? hi)
       rw [if_neg hne]
       exact h.env i s hi
     | some k =>
       have hk := idxN_get hx
       simp only [setD]
       by_cases hki : k = i
       · subst hki
         have : s = d := by rw [hk] at hi; cases hi; rfl
         subst this
         rw [if_pos rfl, gv_set_same _ _ _ (by rw [h.len]; exact (List.getElem?_eq_some_iff.1 hk).1)]
         exact hv
       · rw [gv_set_ne _ _ _ _ hki]
         have hne : s ≠ d := fun hsd => by
           subst hsd
           have h1 := (List.getElem?_eq_some_iff.1 hk)
           have h2 := (List.getElem?_eq_some_iff.1 hi)
           obtain ⟨l1, e1⟩ := h1
           obtain ⟨l2, e2⟩ := h2
           exact hki ((List.getElem_inj hvs).1 (e1.trans e2.symm))
         rw [if_neg hne]
         exact h.env i s hi
   · intro i s hi hsn
     simp only [Act.put, hget]
     cases i with
     | zero =>
       rw [hsl] at hi
       simp only [xgz, xsj] at hi
       subst hi
       rw [if_pos rfl]
       exact hv
     | succ i =>
       have hi' : ts[i]? = some s := by simpa using hi
       have hne : s ≠ d := fun hsd => idxN_none hnot (hsd ▸ List.mem_of_getElem? hi')
       rw [if_neg hne]
       exact h.tmp i s hi' hsn
theorem wp_of_value {o : Oper} {w : World} {next : Act → World → Prop} {Q : Exit → Act → World → Prop} {v' : Value} {w' : World}
   (hr : (execOp a.eval o).run P w = .ok (.value v') w') (hn : next (a.put o.dst v') w') : o.wp P a w next Q := by
 unfold Oper.wp; rw [hr]; exact hn
theorem wp_of_skip {o : Oper} {w : World} {next : Act → World → Prop} {Q : Exit → Act → World → Prop} {w' : World}
   (hr : (execOp a.eval o).run P w = .ok .skip w') (hn : next (a.put o.dst undef) w') : o.wp P a w next Q := by
 unfold Oper.wp; rw [hr]; exact hn
def writerA : AOp → Bool
 | .pure _ => false
 | .eff (.box _) => false
 | .eff (.alloc _) => false
 | .eff (.bslice _ _ _) => false
 | .eff (.mkslice _ _ _ _) => false
 | .eff (.rd _) => false
 | .eff _ => true
 | .call nw _ _ => !nw
theorem Ext.alloc (H : AHeap) (cs : List Value) : Ext H (H.alloc cs) :=
 ⟨Nat.le_succ _, fun b hb => by simp [AHeap.alloc, Nat.ne_of_lt hb]⟩
theorem eff_ext {x : EOp} {H H' : AHeap} {v : Value} (hx : writerA (.eff x) = false) (h : x.ev lim H e t = some (v, H')) : Ext H H' := by
 cases x <;> simp only [writerA] at hx <;> try (cases hx; done)
 · obtain ⟨cs, _, h⟩ := Option.map_eq_some_iff.1 h
   cases h; exact Ext.alloc _ _
 · cases h; exact Ext.alloc _ _
 · obtain ⟨cs, _, h⟩ := Option.map_eq_some_iff.1 h
   cases h; exact Ext.alloc _ _
 · simp only [EOp.ev, mksliceH] at h
   split at h
   · split at h
     · cases h; exact Ext.alloc _ _
     · cases h
   · cases h
 · obtain ⟨u, _, h⟩ := Option.map_eq_some_iff.1 h
   cases h; exact Ext.refl _
theorem op_ok {o : Oper} {aop : AOp} {nw : Bool} {H : AHeap} {w : World} {K : Value → AHeap → Prop} {next : Act → World → Prop} {Q : Exit → Act → World → Prop}
   (hop : trOp P n vs ts nw o = some aop) (hex : execA P lim aop e t H K) (hw : WR lim β H w)
   (hren : ∀ x ∈ o.op.operands, ∀ y, renO n vs ts x = some y → VR β (y.ev e t) (a.eval x))
   (hnext : ∀ v v' H' β' w', K v H' → VR β' v v' → WR lim β' H' w' → Fr lim H β w H' β' w' → (writerA aop = false → Ext H H') → next (a.put o.dst v') w') : o.wp P a w next Q := by
 unfold trOp at hop
 split at hop
 · rename_i p hp
   cases hop
   by_cases hrd : (nw && isLoadB o.op) = true
   · rw [if_pos hrd] at hex
     obtain ⟨v, H', hv, hK⟩ := hex
     obtain ⟨u, hu, hv⟩ := Option.map_eq_some_iff.1 hv
     cases hv
     obtain ⟨v', h1, h2⟩ := trP_ok hp hw hren (fun _ => rfl) hu
     exact wp_of_value h1 (hnext v v' H β w hK h2 hw (Fr.refl _ _ _ _) (fun _ => Ext.refl _))
   · rw [if_neg hrd] at hex
     obtain ⟨v, hv, hK⟩ := hex
     obtain ⟨v', h1, h2⟩ := trP_ok hp hw hren (fun _ => rfl) hv
     exact wp_of_value h1 (hnext v v' H β w hK h2 hw (Fr.refl _ _ _ _) (fun _ => Ext.refl _))
 · split at hop
   · rename_i x hx
     cases hop
     obtain ⟨v, H', hv, hK⟩ := hex
     obtain ⟨w', β', h1, h2, h3⟩ := trE_ok hx hw hren hv
     rcases h1 with ⟨v', h1, h4⟩ | ⟨h1, h4⟩
     · exact wp_of_value h1 (hnext v v' H' β' w' hK h4 h2 h3 (fun hx => eff_ext hx hv))
     · exact wp_of_skip h1 (hnext v undef H' β' w' hK h4 h2 h3 (fun hx => eff_ext hx hv))
   · split at hop
     · rename_i c hc
       split at hop
       · rename_i f hf
         obtain ⟨f1, hf1, hop⟩ := Option.bind_eq_some_iff.1 hop
         split at hop
         · cases hop
         obtain ⟨as, has, rfl⟩ := Option.map_eq_some_iff.1 hop
         obtain ⟨g, cs, hg, hcalls⟩ := hex
         rw [hc] at hren
         have hf' := hren f (by simp [Op.operands, Call.operands, hf]) f1 hf1
         rw [hg] at hf'
         have has' := listR_ok (ρ := a.eval) (e := e) (t := t) has fun z hz => hren z (by simp [Op.operands, Call.operands]; right; simpa using hz)
         obtain ⟨cs', hcs1, hcs2⟩ : ∃ cs', a.eval f = .func (.func g) #[] cs' ∧ VRs β cs.toList cs'.toList := by
           generalize a.eval f = q at hf'
           cases hf' with
           | func hs hcc => exact ⟨_, rfl, by simpa using hs, fun i v v' h1 h2 => hcc i v v' (by simpa using h1) (by simpa using h2)⟩
         have hargs : VRs β (as.map (·.ev e t) ++ cs.toList) (c.args.map a.eval ++ cs').toList := by
           have := has'.append hcs2
           simpa using this
         rcases hcalls with ⟨⟨fn, hfn, hname, hbody⟩, hcall⟩ | ⟨hcl, v, hv1, hv2, hv3⟩
         · have hrun : (execOp a.eval o).run P w = .ok (.enter g (c.args.map a.eval ++ cs')) w := by
             have hb : fn.body ≠ none := by intro h; rw [h] at hbody; cases hbody
             simp [execOp, hc, resolve, hf, Deferred.ofValue, hcs1, invoke, callFunc, program, Sem.run, hfn, hname, hb]
           unfold Oper.wp
           rw [hrun]
           simp only [Oper.upon]
           have hdone : ∀ lim', lim ≤ lim' → WR lim' β H w → (∀ (β' : Inj) (H' : AHeap) (w' : World), WR lim' β' H' w' → Fr lim' H β w H' β' w' → WR lim β' H' w' ∧ Fr lim H β w H' β' w' ∧ (nw = true → Ext H H')) →
               BCalls P lim' g (as.map (·.ev e t) ++ cs.toList) H K →
               Calls P g (c.args.map a.eval ++ cs') w (fun
                 | .returned v, w'' => next (a.put o.dst v) w''
                 | .panicked chain, w'' => Q (.panic chain) a w''
                 | .outgrown, _ => LetsOut Q) := by
             intro lim' hl hw' hback hc'
             refine (hc'.2 β w _ hw' hargs).mono ?_
             intro en w'' ⟨v, v', H', β', h1, h2, h3, h4, h5⟩
             subst h1
             obtain ⟨b1, b2, b3⟩ := hback β' H' w'' h4 h5
             exact hnext v v' H' β' w'' h2 h3 b1 b2 (fun hx => b3 (by simpa [writerA] using hx))
           cases nw with
           | false => exact hdone lim (Nat.le_refl _) hw (fun _ _ _ a b => ⟨a, b, by intro h; cases h⟩) ⟨⟨fn, hfn, hname, hbody⟩, hcall⟩
           | true =>
             exact hdone H.next hw.bnd (hw.raise hw.bnd (Nat.le_refl _)) (fun β' H' w' a b => ⟨hw.weaken b a, b.weaken hw.bnd hw, fun _ => ⟨b.next, b.low⟩⟩) ⟨⟨fn, hfn, hname, hbody⟩, hcall⟩
         · have hcl2 := closed_alls hargs hcl
           have hrun : (execOp a.eval o).run P w = .ok (.value v) w := by
             have e1 : (execOp a.eval o).run P w = (callFunc g (c.args.map a.eval ++ cs')).run P w := by
               simp [execOp, hc, resolve, hf, Deferred.ofValue, hcs1, invoke, Sem.run]
             have e2 : (c.args.map a.eval ++ cs') = (as.map (·.ev e t) ++ cs.toList).toArray := by
               rw [← hcl2]
             rw [e1, e2]
             exact hv2 w
           exact wp_of_value hrun (hnext v v H β w hv3 (hv1 β) hw (Fr.refl _ _ _ _) (fun _ => Ext.refl _))
       · cases hop
     · cases hop
theorem guard_ok {ops : Array Oper} {o : Oper} {ao : AOper} {g : Bool} (h : trGuard n ops ts o = some ao.guard) (hg : guardA ao e t = some g)
   (htmp : ∀ (i s : Nat), ts[i]? = some s → s < n → s ∈ o.looksAt ops → VR β (gv t i) (a.tmps.getD s undef)) (hsz : a.tmps.size = n) :
   Region.wanted o (yielded ops a.tmps) = g := by
 unfold trGuard at h
 unfold guardA at hg
 unfold Region.wanted
 cases hgd : o.guard with
 | none =>
   rw [hgd] at h
   cases hh : ao.guard with
   | none => rw [hh] at hg; cases hg; rfl
   | some p => rw [hh] at h; cases h
 | some p =>
   obtain ⟨j, want⟩ := p
   rw [hgd] at h
   simp only at h
   obtain ⟨oj, hj, h⟩ := Option.bind_eq_some_iff.1 h
   obtain ⟨s, hs, h⟩ := Option.bind_eq_some_iff.1 h
   split at h
   · rename_i hsn
     obtain ⟨i, hi, h⟩ := Option.map_eq_some_iff.1 h
     rw [← h] at hg
     simp only [Opd.ev] at hg
     have hmem : s ∈ o.looksAt ops := by
       unfold Oper.looksAt
       rw [hgd]
       simp [hj, hs]
     have hv := htmp i s (idxN_get hi) hsn hmem
     split at hg
     · rename_i b he
       rw [he] at hv
       have h1 := hv.bool_inv
       have hlt : s < a.tmps.size := by rw [hsz]; assumption
       have h2 : a.tmps[s]? = some (.bool b) := by
         simp only [Array.getD_eq_getD_getElem?] at h1
         rw [Array.getElem?_eq_getElem hlt] at h1 ⊢
         simpa using h1
       have h3 : yielded ops a.tmps j = some b := by
         unfold yielded
         simp [hj, hs, h2]
       simp only [h3]
       cases hg
       rfl
     · rename_i cs he
       split at hg
       · rename_i hcs
         cases hg
         rw [he] at hv
         have hlt : s < a.tmps.size := by rw [hsz]; assumption
         have hy : yielded ops a.tmps j = none := by
           unfold yielded
           simp only [hj, hs, Option.bind_some]
           generalize hv' : a.tmps.getD s undef = v' at hv
           have h2 : a.tmps[s]? = some v' := by
             simp only [Array.getD_eq_getD_getElem?] at hv'
             rw [Array.getElem?_eq_getElem hlt] at hv' ⊢
             simpa using hv'
           rw [h2]
           cases hv with
           | tuple _ _ => rfl
         simp only [hy]
         rfl
       · cases hg
     · cases hg
   · cases h
def RPost (lim n : Nat) (vs ts' : List Nat) (Q : List Value → List Value → AHeap → Prop) (H0 : AHeap) (β0 : Inj) (w0 : World) : Exit → Act → World → Prop :=
 fun ex a' w' => ex = .normal ∧ ∃ e' t' H' β', Q e' t' H' ∧ St vs ts' n β' e' t' a' ∧ WR lim β' H' w' ∧ Fr lim H0 β0 w0 H' β' w'
theorem seq_ok (hvs : vs.Nodup) {ops : Array Oper} {nwf : Nat → Bool} {Q : List Value → List Value → AHeap → Prop} {H0 : AHeap} {β0 : Inj} {w0 : World} {ts' : List Nat} :
   ∀ (order : List Nat) (ts : List Nat) (aops : List AOper), trOps P vs n ops nwf order ts = some (aops, ts') → ∀ (e t : List Value) (H : AHeap) (β : Inj) (a : Act) (w : World),
     St vs ts n β e t a → WR lim β H w → Fr lim H0 β0 w0 H β w → awpOps P lim aops Q e t H → wpOps P ops (RPost lim n vs ts' Q H0 β0 w0) order a w
 | [], ts, aops, h, e, t, H, β, a, w, hs, hw, hf, hA => by
   cases h
   exact ⟨rfl, e, t, H, β, hA, hs, hw, hf⟩
 | i :: l, ts, aops, h, e, t, H, β, a, w, hs, hw, hf, hA => by
   simp only [trOps] at h
   obtain ⟨o, ho, h⟩ := Option.bind_eq_some_iff.1 h
   obtain ⟨g, hg, h⟩ := Option.bind_eq_some_iff.1 h
   obtain ⟨ao, hao, h⟩ := Option.bind_eq_some_iff.1 h
   split at h
   · rename_i hslot
     obtain ⟨⟨rest, ts2⟩, hrest, h⟩ := Option.map_eq_some_iff.1 h
     cases h
     obtain ⟨gb, hgb, hA⟩ := hA
     have hwant := guard_ok (β := β) (a := a) (ao := ⟨ao, o.dst.bind (idxN vs), g⟩) hg hgb (fun i s h1 h2 _ => hs.tmp i s h1 h2) hs.size
     simp only [wpOps, ho]
     rw [hwant]
     cases gb with
     | true =>
       simp only [if_true] at hA ⊢
       refine .inl (op_ok hao hA hw (fun x _ y hy => hs.ren hy) ?_)
       intro v v' H' β' w' hK hv hw' hf' _
       exact seq_ok hvs l _ rest hrest _ _ H' β' _ w' ((hs.mono hf'.le).put hv hvs hslot.2) hw' (hf.trans hf') hK
     | false =>
       simp only [Bool.false_eq_true, if_false] at hA ⊢
       exact seq_ok hvs l _ rest hrest _ _ H β _ w (hs.put (VR.undef β) hvs hslot.2) hw hf hA
   · cases h
end
end Go.Ab
