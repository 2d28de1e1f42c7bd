/- A part of the proof of a statement of this seat: the program logic; no condition. -/
import Derived.Test.YtmdeppkfboaepaaGreatAbCode
import Derived.Orders
namespace Go.Ab
set_option linter.unusedVariables false
set_option linter.unusedSimpArgs false
def V3 (o : Oper) (ao : D9) : Bool := o.dst.isSome && (match ao.op with | .pure _ => ao.dst.isNone | _ => false)
def B46 : AOp → Bool
 | .pure (.load1 _) => true
 | .pure (.loadN _ _) => true
 | _ => false
def Z3 : List Nat → Nat → Bool
 | [], _ => false
 | x :: l, s => bif Nat.beq x s then true else Z3 l s
theorem K6 : ∀ {l : List Nat} {s : Nat}, Z3 l s = true ↔ s ∈ l
 | [], s => by simp [Z3]
 | x :: l, s => by
   simp only [Z3, List.mem_cons]; cases hb : Nat.beq x s with
   | true => simp [Nat.eq_of_beq_eq_true hb]
   | false =>
     have hne : x ≠ s := fun e => by subst e; simp at hb
     simp [K6, Ne.symm hne]
def pwB {α : Type} (f : α → α → Bool) : List α → Bool
 | [] => true
 | x :: l => l.all (f x) && pwB f l
theorem A1j {α : Type} {f : α → α → Bool} : ∀ {l m : List α}, pwB f (l ++ m) = true → ∀ x ∈ l, ∀ y ∈ m, f x y = true
 | [], m, h, x, hx, y, hy => by simp at hx
 | z :: l, m, h, x, hx, y, hy => by
   simp only [List.cons_append, pwB, Bool.and_eq_true, List.all_eq_true] at h; rcases List.mem_cons.1 hx with rfl | hx
   ·exact h.1 y (by simp [hy])
   ·exact A1j h.2 x hx y hy
def C12 (n : Nat) (ops : Array Oper) (A : Nat → List Nat) (i : Nat) (oi : Oper) (j : Nat) (oj : Oper) : Bool :=
 (!Z3 (oj.looksAt ops) (D1 n oi) || Z3 (A j) i) &&
 (!(Nat.beq (D1 n oj) (D1 n oi))) &&
 (!Z3 (oi.looksAt ops) (D1 n oj) || Z3 (A i) j || Z3 (A j) i)
def O2 (n : Nat) (ops : Array Oper) (A : Nat → List Nat) (x y : Nat × D9) : Bool :=
 match ops[x.1]?, ops[y.1]? with
 | some ox, some oy =>
   (!Nat.beq x.1 y.1) && (!Z3 (A x.1) y.1) &&
   (!(V3 ox x.2 && B46 x.2.op && A0i y.2.op) || Z3 (A y.1) x.1) &&
   (!V3 ox x.2 || C12 n ops A x.1 ox y.1 oy) && (!V3 oy y.2 || C12 n ops A y.1 oy x.1 ox)
 | _, _ => false
def C41 (ops : Array Oper) (A : Nat → List Nat) : Bool :=
 (List.range ops.size).all fun i => (A i).all fun j => match ops[i]? with
  | some o => o.after.toList.any fun ed => Region.binds .any ed && (Nat.beq ed.on j || (Nat.blt ed.on i && Z3 (A ed.on) j))
  | none => false
def C22 (ops : Array Oper) : List Nat → List Nat → Bool
 | _, [] => true
 | seen, i :: l => (match ops[i]? with
   | some o => o.after.toList.all fun ed => !Region.binds .any ed || Z3 seen ed.on
   | none => false) && C22 ops (i :: seen) l
def B1q (n : Nat) (ops : Array Oper) (x : Nat × D9) : Bool :=
 match ops[x.1]? with
 | some o => !V3 o x.2 || !Z3 (o.looksAt ops) (D1 n o)
 | none => false
inductive B0 where
 | nil
 | op (i : Nat) (o : D9) (k : B0)
 | alt (a b : B0)
def B0.heads : B0 → List Nat
 | .nil => []
 | .op i _ _ => [i]
 | .alt a b => a.heads ++ b.heads
def B0.depth : B0 → Nat
 | .nil => 0
 | .op _ _ k => k.depth + 1
 | .alt a b => bif Nat.ble a.depth b.depth then b.depth else a.depth
def B0.ofList : List (Nat × D9) → B0
 | [] => .nil
 | x :: l => .op x.1 x.2 (ofList l)
def C5g (ops : Array Oper) (A : Nat → List Nat) (done : List (Nat × D9)) (hs : List Nat) : Bool :=
 (List.range ops.size).all fun j => Z3 (done.map (·.1)) j || Z3 hs j || hs.any fun c => Z3 (A j) c
def A39 (ops : Array Oper) (i : Nat) (ao : D9) : Bool := match ops[i]? with | some o => V3 o ao | none => false
def Z4 (n : Nat) (ops : Array Oper) (A : Nat → List Nat) : List (Nat × D9) → Bool → B0 → Bool
 | done, top, .nil => top && (List.range ops.size).all (Z3 (done.map (·.1)))
 | done, top, .op i ao k => done.all (fun x => O2 n ops A x (i, ao)) && B1q n ops (i, ao) && (if top then A39 ops i ao || C5g ops A done [i] else !A39 ops i ao) && Z4 n ops A (done ++ [(i, ao)]) true k
 | done, top, .alt a b => (!top || C5g ops A done (a.heads ++ b.heads)) && Z4 n ops A done false a && Z4 n ops A done false b
def okD (n : Nat) (ops : Array Oper) (A : Nat → List Nat) (κ : List Nat) (T : B0) : Bool :=
 Z4 n ops A [] true T && C41 ops A && C22 ops [] κ && (List.range ops.size).all (Z3 κ) && Nat.ble T.depth ops.size
theorem POp.ev_mono {H H' : A1} {e t : List Value} {p : POp} {v : Value} (hx : ∀ b cs, H.blk b = some cs → H'.blk b = some cs) (h : p.ev H e t = some v) : p.ev H' e t = some v := by
 cases p <;> try exact h
 ·simp only [POp.ev, F5, D5] at h ⊢; split at h
  ·rename_i b o he; unfold A1.cell at h ⊢; obtain ⟨cs, hc, h⟩ := Option.bind_eq_some_iff.1 h; rw [hx b cs hc]; exact h
  ·cases h
 ·simp only [POp.ev, F5, D5] at h ⊢; split at h
  ·rename_i b o he; obtain ⟨l, hl, h⟩ := Option.map_eq_some_iff.1 h; unfold P6 at hl ⊢; obtain ⟨cs, hc, hl⟩ := Option.bind_eq_some_iff.1 hl; rw [hx b cs hc]; simp only [Option.bind_some, hl, Option.map_some, h]
  ·cases h
theorem POp.ev_heap {H H' : A1} {e t : List Value} {p : POp} {v : Value} (hl : B46 (.pure p) = false) (h : p.ev H e t = some v) : p.ev H' e t = some v := by
 cases p <;> first | exact h | (cases hl; done)
section
variable {P : Program} {lim n : Nat} {vs : List Nat} {ops : Array Oper} {A : Nat → List Nat}
abbrev B8l := Nat × Value
def Rel (n : Nat) (ops : Array Oper) (π : List B8l) (β : Inj) (a : Act) (s : Nat) (u : Value) : Prop :=
 (∀ p ∈ π, ∀ o, ops[p.1]? = some o → D1 n o = s → u = p.2) ∧ ((∀ p ∈ π, ∀ o, ops[p.1]? = some o → D1 n o ≠ s) → VR β u (a.tmps.getD s undef))
structure D4v (P : Program) (n : Nat) (vs : List Nat) (ops : Array Oper) (π : List B8l) (β : Inj) (H : A1) (a : Act) (p : B8l) (ao : D9) : Prop where
 ex : ∃ (o : Oper) (tsp : List Nat) (ep tp : List Value) (g : Bool), ops[p.1]? = some o ∧ V3 o ao = true ∧ D1 n o < n ∧ A2f n ops tsp o = some ao.guard ∧ Y2 ao ep tp = some g ∧
  (g = true → ∃ q, ao.op = .pure q ∧ trP P (A0k n vs tsp) o.op = some q ∧ q.ev H ep tp = some p.2) ∧ (g = false → p.2 = undef) ∧
  (∀ s ∈ o.looksAt ops, s < n → (∀ i, Q2 tsp s = some i → Rel n ops π β a s (gv tp i)) ∧ (Q2 tsp s = none → ∀ i, Q2 vs s = some i → Rel n ops π β a s (gv ep i))) ∧
  (∀ (i s : Nat), tsp[i]? = some s → s < n → Q2 tsp s = some i)
structure j6 (P : Program) (lim n : Nat) (vs : List Nat) (ops : Array Oper) (listed : Array Bool) (done rem : List (Nat × D9)) (π : List B8l) (ts : List Nat) (e t : List Value) (H : A1) (β : Inj) (a : Act) (w : World) : Prop where
 lsize : listed.size = ops.size
 iff_ : ∀ i, i < ops.size → (listed.getD i true = true ↔ (i ∈ done.map (·.1) ∧ i ∉ π.map (·.1)))
 closed : ∀ i o, i < ops.size → listed.getD i true = true → ops[i]? = some o → ∀ ed ∈ o.after, Region.binds .any ed = true → listed.getD ed.on false = true
 size : a.tmps.size = n
 defers : a.defers = []
 vlt : ∀ s ∈ vs, s < n
 len : e.length = vs.length
 tlen : t.length = ts.length
 uniq : ∀ (i s : Nat), ts[i]? = some s → s < n → Q2 ts s = some i
 env : ∀ (i s : Nat), vs[i]? = some s → VR β (gv e i) (a.tmps.getD s undef)
 tmp : ∀ (i s : Nat), ts[i]? = some s → s < n → Rel n ops π β a s (gv t i)
 pin : ∀ p ∈ π, ∃ ao, (p.1, ao) ∈ done ∧ D4v P n vs ops π β H a p ao
 pslot : ∀ p ∈ π, ∀ o, ops[p.1]? = some o → D1 n o ∈ ts ∧ Q2 vs (D1 n o) = none ∧ D1 n o < n
 pnodup : (π.map (·.1)).Nodup
 wr : WR lim β H w
theorem C56 {α : Type} {f : α → α → Bool} : ∀ {l : List α}, pwB f l = true → ∀ x ∈ l, ∀ y ∈ l, x ≠ y → f x y = true ∨ f y x = true
 | [], h, x, hx, _, _, _ => by simp at hx
 | z :: l, h, x, hx, y, hy, hne => by
   simp only [pwB, Bool.and_eq_true, List.all_eq_true] at h; rcases List.mem_cons.1 hx with hx1 | hx1
   ·rcases List.mem_cons.1 hy with hy1 | hy1
    ·exact absurd (hx1.trans hy1.symm) hne
    ·subst hx1; exact .inl (h.1 y hy1)
   ·rcases List.mem_cons.1 hy with hy1 | hy1
    ·subst hy1; exact .inr (h.1 x hx1)
    ·exact C56 h.2 x hx1 y hy1 hne
structure C49 (n : Nat) (ops : Array Oper) (A : Nat → List Nat) (x y : Nat × D9) (ox oy : Oper) : Prop where
 ne : x.1 ≠ y.1
 before : y.1 ∉ A x.1
 load : V3 ox x.2 = true → B46 x.2.op = true → A0i y.2.op = true → x.1 ∈ A y.1
 s1 : V3 ox x.2 = true → (D1 n ox ∈ oy.looksAt ops → x.1 ∈ A y.1) ∧ D1 n oy ≠ D1 n ox ∧ (D1 n oy ∈ ox.looksAt ops → y.1 ∈ A x.1 ∨ x.1 ∈ A y.1)
 s2 : V3 oy y.2 = true → (D1 n oy ∈ ox.looksAt ops → y.1 ∈ A x.1) ∧ D1 n ox ≠ D1 n oy ∧ (D1 n ox ∈ oy.looksAt ops → x.1 ∈ A y.1 ∨ y.1 ∈ A x.1)
theorem C38 {i j : Nat} {oi oj : Oper} (h : C12 n ops A i oi j oj = true) :
 (D1 n oi ∈ oj.looksAt ops → i ∈ A j) ∧ D1 n oj ≠ D1 n oi ∧ (D1 n oj ∈ oi.looksAt ops → j ∈ A i ∨ i ∈ A j) := by
 simp only [C12, Bool.and_eq_true, Bool.or_eq_true, Bool.not_eq_true'] at h; obtain ⟨⟨h1, h2⟩, h3⟩ := h; refine ⟨fun hm => ?_, fun he => ?_, fun hm => ?_⟩
 ·rcases h1 with h1 | h1
  ·rw [K6.2 hm] at h1; cases h1
  ·exact K6.1 h1
 ·rw [he] at h2; simp at h2
 ·rcases h3 with (h3 | h3) | h3
  ·rw [K6.2 hm] at h3; cases h3
  ·exact .inl (K6.1 h3)
  ·exact .inr (K6.1 h3)
theorem B47 {x y : Nat × D9} {ox oy : Oper} (h : O2 n ops A x y = true) (hx : ops[x.1]? = some ox) (hy : ops[y.1]? = some oy) : C49 n ops A x y ox oy := by
 simp only [O2, hx, hy, Bool.and_eq_true, Bool.or_eq_true, Bool.not_eq_true'] at h; obtain ⟨⟨⟨⟨h1, h2⟩, h4⟩, h5⟩, h6⟩ := h; refine ⟨fun e => (by rw [e] at h1; simp at h1), fun hm => (by rw [K6.2 hm] at h2; cases h2), ?_, ?_, ?_⟩
 ·intro f1 f2 f3; rcases h4 with h4 | h4
  ·rw [f1, f2, f3] at h4; cases h4
  ·exact K6.1 h4
 ·intro hf; rcases h5 with h5 | h5
  ·rw [hf] at h5; cases h5
  ·exact C38 h5
 ·intro hf; rcases h6 with h6 | h6
  ·rw [hf] at h6; cases h6
  ·exact C38 h6
theorem B6a {listed : Array Bool} (hA : C41 ops A = true) (hsz : listed.size = ops.size)
 (hcl : ∀ i o, i < ops.size → listed.getD i true = true → ops[i]? = some o → ∀ ed ∈ o.after, Region.binds .any ed = true → listed.getD ed.on false = true) :
 ∀ (i : Nat) (o : Oper), ops[i]? = some o → (∀ ed ∈ o.after, Region.binds .any ed = true → listed.getD ed.on false = true) → ∀ j ∈ A i, listed.getD j false = true := by
 intro i
 induction i using Nat.strongRecOn with
 | _ i ih =>
   intro o ho hd j hj; have hi : i < ops.size := (Array.getElem?_eq_some_iff.1 ho).1; simp only [C41, List.all_eq_true, List.mem_range] at hA; have h1 := hA i hi j hj; rw [ho] at h1; simp only [List.any_eq_true, Bool.and_eq_true, Bool.or_eq_true] at h1; obtain ⟨ed, hed, hb, h2⟩ := h1; have hl := hd ed (by simpa using hed) hb; rcases h2 with h2 | ⟨h2, h3⟩
   ·have := Nat.eq_of_beq_eq_true h2; subst this; exact hl
   ·have hlt : ed.on < i := by simpa using h2
    have hlt' : ed.on < ops.size := by omega
    have hlt2 : ed.on < listed.size := by omega
    have hl' : listed.getD ed.on true = true := by
     simp only [Array.getD, hlt2, dite_true] at hl ⊢; exact hl
    exact ih ed.on hlt ops[ed.on] (by simp [hlt']) (hcl ed.on _ hlt' hl' (by simp [hlt'])) j (K6.1 h3)
theorem C3o {listed : Array Bool} {i : Nat} (h : listed.getD i false = true) : listed.getD i true = true := by
 simp only [Array.getD] at h ⊢; split at h
 ·rename_i hi; simp only [hi, dite_true]; exact h
 ·cases h
theorem B0w {l : List Nat} {x s : Nat} (h : x ≠ s) : Q2 (x :: l) s = (Q2 l s).map (· + 1) := by
 have : Nat.beq x s = false := by
  cases hb : Nat.beq x s with
  | true => exact absurd (Nat.eq_of_beq_eq_true hb) h
  | false => rfl
 simp [Q2, this]
theorem A95 {l : List Nat} {s : Nat} : Q2 (s :: l) s = some 0 := by simp [Q2]
variable {listed : Array Bool} {done rem : List (Nat × D9)} {π : List B8l} {ts : List Nat} {e t : List Value} {H : A1} {β : Inj} {a : Act} {w : World}
theorem j6.get {i : Nat} {s : Nat} (hD : j6 P lim n vs ops listed done rem π ts e t H β a w) {p : B8l} (hp : p ∈ π) : ∃ o, ops[p.1]? = some o := by
 obtain ⟨ao, _, hW⟩ := hD.pin p hp; obtain ⟨o, _, _, _, _, ho, _⟩ := hW.ex; exact ⟨o, ho⟩
theorem j6.advance {i : Nat} {ao : D9} {o : Oper} {v : Value} {g : Bool} (hD : j6 P lim n vs ops listed done ((i, ao) :: rem) π ts e t H β a w)
 (hpw : pwB (O2 n ops A) (done ++ (i, ao) :: rem) = true) (ho : ops[i]? = some o) (hfl : V3 o ao = true) (hlt : D1 n o < n) (hts : Q2 ts (D1 n o) = none) (hvs : Q2 vs (D1 n o) = none)
 (hg : A2f n ops ts o = some ao.guard) (hgb : Y2 ao e t = some g) (hval : g = true → ∃ q, ao.op = .pure q ∧ trP P (A0k n vs ts) o.op = some q ∧ q.ev H e t = some v) (hu : g = false → v = undef) :
 j6 P lim n vs ops listed (done ++ [(i, ao)]) rem (π ++ [(i, v)]) (D1 n o :: ts) e (v :: t) H β a w := by
 have hnd : ∀ x ∈ done, ∀ ox, ops[x.1]? = some ox → C49 n ops A x (i, ao) ox o := fun x hx ox hox =>
  B47 (A1j hpw x hx (i, ao) (by simp)) hox ho
 have hdone_ops : ∀ x ∈ done, ∃ ox, ops[x.1]? = some ox := by
  intro x hx; have := A1j hpw x hx (i, ao) (by simp); unfold O2 at this; cases hox : ops[x.1]? with
  | none => rw [hox] at this; cases this
  | some ox => exact ⟨ox, rfl⟩
 have hid : i ∉ done.map (·.1) := by
  intro hm; obtain ⟨x, hx, hxi⟩ := List.mem_map.1 hm; obtain ⟨ox, hox⟩ := hdone_ops x hx; exact (hnd x hx ox hox).ne hxi
 have hπd : ∀ p ∈ π, p.1 ∈ done.map (·.1) := by
  intro p hp; obtain ⟨ao', h1, _⟩ := hD.pin p hp; exact List.mem_map.2 ⟨_, h1, rfl⟩
 have hiπ : i ∉ π.map (·.1) := by
  intro hm; obtain ⟨p, hp, hpi⟩ := List.mem_map.1 hm; exact hid (hpi ▸ hπd p hp)
 have hslot_ts : D1 n o ∉ ts := W0 hts; have hrel : ∀ s u, s ≠ D1 n o → Rel n ops π β a s u → Rel n ops (π ++ [(i, v)]) β a s u := by
  intro s u hs hr; refine ⟨fun p hp o' ho' hso => ?_, fun hn => hr.2 fun p hp o' ho' => hn p (by simp [hp]) o' ho'⟩; rcases List.mem_append.1 hp with hp | hp
  ·exact hr.1 p hp o' ho' hso
  ·simp at hp; subst hp; simp only at ho'; rw [ho] at ho'; cases ho'; exact absurd hso.symm hs
 refine ⟨hD.lsize, ?_, hD.closed, hD.size, hD.defers, hD.vlt, hD.len, by simp [hD.tlen], ?_, hD.env, ?_, ?_, ?_, ?_, hD.wr⟩
 ·intro j hj; rw [hD.iff_ j hj]; simp only [List.map_append, List.map_cons, List.map_nil, List.mem_append, List.mem_singleton, not_or]
  constructor
  ·rintro ⟨h1, h2⟩; exact ⟨.inl h1, h2, fun he => hid (he ▸ h1)⟩
  ·rintro ⟨h1 | h1, h2, h3⟩
   ·exact ⟨h1, h2⟩
   ·exact absurd h1 h3
 ·intro k s hk hs; cases k with
  | zero =>
    simp at hk; subst hk; exact A95
  | succ k =>
    have hk' : ts[k]? = some s := by simpa using hk
    have hne : D1 n o ≠ s := fun h => hslot_ts (h ▸ List.mem_of_getElem? hk')
    rw [B0w hne, hD.uniq k s hk' hs]; rfl
 ·intro k s hk hs; cases k with
  | zero =>
    simp at hk; subst hk; refine ⟨fun p hp o' ho' hso => ?_, fun hn => absurd rfl (hn (i, v) (by simp) o ho)⟩; rcases List.mem_append.1 hp with hp | hp
    ·exact absurd (hso ▸ (hD.pslot p hp o' ho').1) hslot_ts
    ·simp at hp; subst hp; rfl
  | succ k =>
    have hk' : ts[k]? = some s := by simpa using hk
    exact hrel s _ (fun h => hslot_ts (h ▸ List.mem_of_getElem? hk')) (hD.tmp k s hk' hs)
 ·intro p hp; rcases List.mem_append.1 hp with hp | hp
  ·obtain ⟨ao', hmem, hW⟩ := hD.pin p hp; obtain ⟨o', tsp, ep, tp, g', h1, h2, h3, h4, h5, h6, h7, h8, h9⟩ := hW.ex; have hpair := hnd (p.1, ao') hmem o' h1; have hnotin : D1 n o ∉ o'.looksAt ops := fun hm => hpair.before ((hpair.s2 hfl).1 hm)
   refine ⟨ao', by simp [hmem], ⟨o', tsp, ep, tp, g', h1, h2, h3, h4, h5, h6, h7, ?_, h9⟩⟩; intro s hs hsn; have hne : s ≠ D1 n o := fun h => hnotin (h ▸ hs)
   exact ⟨fun k hk => hrel s _ hne ((h8 s hs hsn).1 k hk), fun hk0 k hk => hrel s _ hne ((h8 s hs hsn).2 hk0 k hk)⟩
  ·simp at hp; subst hp; refine ⟨ao, by simp, ⟨o, ts, e, t, g, ho, hfl, hlt, hg, hgb, hval, hu, ?_, hD.uniq⟩⟩; intro s hs hsn; refine ⟨fun k hk => ?_, fun hk0 k hk => ?_⟩
   ·have hk' := Q3 hk; exact hrel s _ (fun h => hslot_ts (h ▸ List.mem_of_getElem? hk')) (hD.tmp k s hk' hsn)
   ·refine ⟨fun p hp o' ho' hso => ?_, fun _ => hD.env k s (Q3 hk)⟩; rcases List.mem_append.1 hp with hp | hp
    ·have := (hD.pslot p hp o' ho').1; rw [hso] at this; exact absurd this (W0 hk0)
    ·simp at hp; subst hp; simp only at ho'; rw [ho] at ho'; cases ho'; rw [hso] at hvs; rw [hvs] at hk; cases hk
 ·intro p hp o' ho'; rcases List.mem_append.1 hp with hp | hp
  ·obtain ⟨h1, h2, h3⟩ := hD.pslot p hp o' ho'; exact ⟨by simp [h1], h2, h3⟩
  ·simp at hp; subst hp; simp only at ho'; rw [ho] at ho'; cases ho'; exact ⟨by simp, hvs, hlt⟩
 ·rw [List.map_append]; refine List.nodup_append.2 ⟨hD.pnodup, by simp, ?_⟩; intro x hx y hy; simp at hy; subst hy; exact fun h => hiπ (h ▸ hx)
theorem A6y {j : Nat} (h : j ∈ Region.ready .any ops listed) : ∃ o, ops[j]? = some o ∧ j < ops.size ∧ listed.getD j true = false ∧ ∀ ed ∈ o.after, Region.binds .any ed = true → listed.getD ed.on false = true := by
 obtain ⟨h0, o, ho, hall⟩ := mem_ready.1 h; exact ⟨o, ho, (Array.getElem?_eq_some_iff.1 ho).1, h0, hall⟩
theorem j6.notWaiting (hD : j6 P lim n vs ops listed done rem π ts e t H β a w) (hA : C41 ops A = true) {i : Nat} {o : Oper} (ho : ops[i]? = some o)
 (hall : ∀ ed ∈ o.after, Region.binds .any ed = true → listed.getD ed.on false = true) {p : B8l} (hp : p ∈ π) : p.1 ∉ A i := by
 intro hm; have hl := C3o (B6a hA hD.lsize hD.closed i o ho hall p.1 hm); obtain ⟨op, hop⟩ := hD.get (s := 0) (i := 0) hp; have hlt : p.1 < ops.size := (Array.getElem?_eq_some_iff.1 hop).1; exact ((hD.iff_ p.1 hlt).1 hl).2 (List.mem_map.2 ⟨p, hp, rfl⟩)
theorem A9s {listed : Array Bool} {i j : Nat} (hi : i < listed.size) : (listed.setIfInBounds i true).getD j true = (if j = i then true else listed.getD j true) := by
 by_cases h : j = i
 ·subst h; simp [Array.getD, hi]
 ·rw [if_neg h, getD_set_ne true (Ne.symm h)]
theorem j6.run_wait {Q : Exit → Act → World → Prop} {K : Act → World → Prop} {i : Nat} (hD : j6 P lim n vs ops listed done rem π ts e t H β a w)
 (hpw : pwB (O2 n ops A) (done ++ rem) = true) (hself : ∀ x ∈ done, B1q n ops x = true) (hA : C41 ops A = true) (hr : i ∈ Region.ready .any ops listed) (hiπ : i ∈ π.map (·.1))
 (hK : ∀ a', j6 P lim n vs ops (listed.setIfInBounds i true) done rem (π.filter fun q => q.1 != i) ts e t H β a' w → K a' w) : wpOp P ops Q i K a w := by
 obtain ⟨o, ho, hlt, hun, hall⟩ := A6y hr; obtain ⟨p, hp, rfl⟩ := List.mem_map.1 hiπ; obtain ⟨ao, hmem, hW⟩ := hD.pin p hp; obtain ⟨o', tsp, ep, tp, g, ho', hfl, hslt, hg, hgb, hval, hu, hrel, huniq⟩ := hW.ex; rw [ho] at ho'; cases ho'; have hpwd : pwB (O2 n ops A) done = true := by
  have : ∀ (l m : List (Nat × D9)), pwB (O2 n ops A) (l ++ m) = true → pwB (O2 n ops A) l = true := by
   intro l m
   induction l with
   | nil => intro _; rfl
   | cons z l ih =>
     intro h; simp only [List.cons_append, pwB, Bool.and_eq_true, List.all_eq_true] at h ⊢; exact ⟨fun x hx => h.1 x (by simp [hx]), ih h.2⟩
  exact this _ _ hpw
 have hother : ∀ p2 ∈ π, p2.1 ≠ p.1 → ∀ o2, ops[p2.1]? = some o2 → (D1 n o2 ∈ o.looksAt ops → p2.1 ∈ A p.1) ∧ D1 n o2 ≠ D1 n o := by
  intro p2 hp2 hne o2 ho2; obtain ⟨ao2, hmem2, hW2⟩ := hD.pin p2 hp2; obtain ⟨o2', _, _, _, _, ho2', hfl2, _⟩ := hW2.ex; rw [ho2] at ho2'; cases ho2'; rcases C56 hpwd (p2.1, ao2) hmem2 (p.1, ao) hmem (fun h => hne (by simpa using congrArg (fun z : Nat × D9 => z.1) h)) with h | h
  ·have := B47 h ho2 ho; exact ⟨(this.s1 hfl2).1, (this.s1 hfl2).2.1.symm⟩
  ·have := B47 h ho ho2; exact ⟨(this.s2 hfl2).1, (this.s2 hfl2).2.1.symm⟩
 have hown : D1 n o ∉ o.looksAt ops := by
  have := hself _ hmem; simp only [B1q, ho, hfl, Bool.not_true, Bool.false_or, Bool.not_eq_true'] at this; intro hm; rw [K6.2 hm] at this; cases this
 have hlie : ∀ s ∈ o.looksAt ops, ∀ u, Rel n ops π β a s u → VR β u (a.tmps.getD s undef) := by
  intro s hs u hR; refine hR.2 fun p2 hp2 o2 ho2 hso => ?_
  by_cases hne : p2.1 = p.1
  ·rw [hne, ho] at ho2; cases ho2; exact hown (hso ▸ hs)
  ·exact hD.notWaiting hA ho hall hp2 ((hother p2 hp2 hne o2 ho2).1 (hso ▸ hs))
 have hwant : Region.wanted o (yielded ops a.tmps) = g :=
  B50 (β := β) hg hgb (fun k s hk hsn hs => hlie s hs _ ((hrel s hs hsn).1 k (huniq k s hk hsn))) hD.size
 have hren : ∀ x ∈ o.op.operands, ∀ y, A0k n vs tsp x = some y → VR β (y.ev ep tp) (a.eval x) := by
  intro x hx y hy; cases x with
  | tmp s =>
    have hs : s ∈ o.looksAt ops := by
     unfold Oper.looksAt; refine List.mem_append.2 (.inl (List.mem_filterMap.2 ⟨.tmp s, by simpa using hx, rfl⟩))
    simp only [A0k] at hy; split at hy
    ·rename_i hsn; split at hy
     ·rename_i k hk; cases hy; exact hlie s hs _ ((hrel s hs hsn).1 k hk)
     ·rename_i hk; obtain ⟨k, hk2, rfl⟩ := Option.map_eq_some_iff.1 hy; exact hlie s hs _ ((hrel s hs hsn).2 hk k hk2)
    ·cases hy
  | const v =>
    simp only [A0k] at hy; split at hy
    ·rename_i hc; cases hy; exact VR.closed hc
    ·cases hy
  | func f => cases hy; exact .func rfl (by intro i v v' h; simp at h)
  | global g => cases hy
 obtain ⟨hs1, hs2, hs3⟩ := hD.pslot p hp o ho; have hdst : o.dst = some (D1 n o) := by
  unfold V3 at hfl; simp only [Bool.and_eq_true] at hfl; obtain ⟨d, hd⟩ := Option.isSome_iff_exists.1 hfl.1; simp [D1, hd]
 have hafter : ∀ v', VR β p.2 v' → j6 P lim n vs ops (listed.setIfInBounds p.1 true) done rem (π.filter fun q => q.1 != p.1) ts e t H β (a.put o.dst v') w := by
  intro v' hv; have hget : ∀ s, (a.put o.dst v').tmps.getD s undef = if s = D1 n o then v' else a.tmps.getD s undef := by
   intro s; rw [hdst]; simp only [Act.put]; by_cases hsd : s = D1 n o
   ·subst hsd; simp [Array.getD, hD.size, hs3]
   ·rw [if_neg hsd]; simp only [Array.getD_eq_getD_getElem?, Array.getElem?_setIfInBounds, if_neg (Ne.symm hsd)]
  have hmemf : ∀ q, q ∈ (π.filter fun q => q.1 != p.1) ↔ q ∈ π ∧ q.1 ≠ p.1 := by
   intro q; simp [List.mem_filter]
  have hrel' : ∀ s u, Rel n ops π β a s u → Rel n ops (π.filter fun q => q.1 != p.1) β (a.put o.dst v') s u := by
   intro s u hR; refine ⟨fun q hq o' ho' hso => hR.1 q ((hmemf q).1 hq).1 o' ho' hso, fun hn => ?_⟩; rw [hget]; by_cases hsd : s = D1 n o
   ·rw [if_pos hsd]; have := hR.1 p hp o ho hsd.symm; rw [this]; exact hv
   ·rw [if_neg hsd]; refine hR.2 fun q hq o' ho' hso => ?_
    by_cases hqp : q.1 = p.1
    ·rw [hqp, ho] at ho'; cases ho'; exact hsd hso.symm
    ·exact hn q ((hmemf q).2 ⟨hq, hqp⟩) o' ho' hso
  have hpd : p.1 ∈ done.map (·.1) := List.mem_map.2 ⟨_, hmem, rfl⟩; refine ⟨by simp [hD.lsize], ?_, ?_, ?_, ?_, hD.vlt, hD.len, hD.tlen, hD.uniq, ?_, fun k s hk hs => hrel' s _ (hD.tmp k s hk hs), ?_, ?_, ?_, hD.wr⟩
  ·intro j hj; rw [A9s (by rw [hD.lsize]; exact hlt)]; by_cases hji : j = p.1
   ·subst hji; simp only [if_true, true_iff]; refine ⟨hpd, fun hm => ?_⟩; obtain ⟨q, hq, hqe⟩ := List.mem_map.1 hm; exact ((hmemf q).1 hq).2 hqe
   ·rw [if_neg hji, hD.iff_ j hj]
    constructor
    ·rintro ⟨h1, h2⟩; refine ⟨h1, fun hm => h2 ?_⟩; obtain ⟨q, hq, hqe⟩ := List.mem_map.1 hm; exact List.mem_map.2 ⟨q, ((hmemf q).1 hq).1, hqe⟩
    ·rintro ⟨h1, h2⟩; refine ⟨h1, fun hm => h2 ?_⟩; obtain ⟨q, hq, hqe⟩ := List.mem_map.1 hm; exact List.mem_map.2 ⟨q, (hmemf q).2 ⟨hq, by rw [hqe]; exact hji⟩, hqe⟩
  ·intro j oj hj hl hoj ed hed hb; refine getD_set_true ?_; rw [A9s (by rw [hD.lsize]; exact hlt)] at hl; by_cases hji : j = p.1
   ·subst hji; rw [ho] at hoj; cases hoj; exact hall ed hed hb
   ·rw [if_neg hji] at hl; exact hD.closed j oj hj hl hoj ed hed hb
  ·rw [hdst]; simpa [Act.put] using hD.size
  ·rw [hdst]; simpa [Act.put] using hD.defers
  ·intro k s hk; rw [hget]; have hne : s ≠ D1 n o := fun h => W0 hs2 (h ▸ List.mem_of_getElem? hk)
   rw [if_neg hne]; exact hD.env k s hk
  ·intro q hq; obtain ⟨hq1, hq2⟩ := (hmemf q).1 hq; obtain ⟨ao2, hmem2, hW2⟩ := hD.pin q hq1; obtain ⟨o2, tsp2, ep2, tp2, g2, k1, k2, k3, k4, k5, k6, k7, k8, k9⟩ := hW2.ex; exact ⟨ao2, hmem2, ⟨o2, tsp2, ep2, tp2, g2, k1, k2, k3, k4, k5, k6, k7, fun s hs hsn => ⟨fun k hk => hrel' s _ ((k8 s hs hsn).1 k hk), fun h0 k hk => hrel' s _ ((k8 s hs hsn).2 h0 k hk)⟩, k9⟩⟩
  ·intro q hq o' ho'; exact hD.pslot q ((hmemf q).1 hq).1 o' ho'
  ·exact (hD.pnodup.sublist (List.Sublist.map _ List.filter_sublist))
 unfold wpOp; simp only [ho]; rw [hwant]; cases g with
 | true =>
   simp only [if_true]; obtain ⟨q, hq1, hq2, hq3⟩ := hval rfl; obtain ⟨v', h1, h2⟩ := C4p (ρ := a.eval) hq2 hD.wr hren (fun _ => rfl) hq3; exact .inl (j8 h1 (hK _ (hafter v' h2)))
 | false =>
   simp only [Bool.false_eq_true, if_false]; refine hK _ (hafter undef ?_); rw [hu rfl]; exact VR.undef β
theorem D1z {o : Oper} {v v' : Value} (hsz : a.tmps.size = n) (hlen : e.length = vs.length) (henv : ∀ (i s : Nat), vs[i]? = some s → VR β (gv e i) (a.tmps.getD s undef)) (hvl : ∀ s ∈ vs, s < n) (hv : VR β v v') (hvs : vs.Nodup)
 (hs : o.dst.isSome = true → D1 n o < n) :
 (I8 e (o.dst.bind (Q2 vs)) v).length = vs.length ∧ (∀ (i s : Nat), vs[i]? = some s → VR β (gv (I8 e (o.dst.bind (Q2 vs)) v) i) ((a.put o.dst v').tmps.getD s undef)) ∧
 (∀ s, s < n → (a.put o.dst v').tmps.getD s undef = if s = D1 n o then v' else a.tmps.getD s undef) := by
 have hst : St vs [] n β e [] a → True := fun _ => trivial
 cases hd : o.dst with
 | none =>
   have hsl : D1 n o = n := by simp [D1, hd]
   refine ⟨by simpa [I8] using hlen, fun i s hi => by simpa [I8, Act.put] using henv i s hi, fun s hsn => ?_⟩; rw [hsl, if_neg (by omega)]; rfl
 | some d =>
   have hsl : D1 n o = d := by simp [D1, hd]
   have hlt := hs (by simp [hd]); rw [hsl] at hlt; have hget : ∀ s, (a.tmps.setIfInBounds d v').getD s undef = if s = d then v' else a.tmps.getD s undef := by
    intro s; by_cases hsd : s = d
    ·subst hsd; simp [Array.getD, hsz, hlt]
    ·rw [if_neg hsd]; simp only [Array.getD_eq_getD_getElem?, Array.getElem?_setIfInBounds, if_neg (Ne.symm hsd)]
   refine ⟨by unfold I8; split <;> simp [hlen], ?_, fun s _ => by rw [hsl]; exact hget s⟩; intro i s hi; simp only [Act.put, hget, Option.bind_some]; cases hx : Q2 vs d with
   | none =>
     have hne : s ≠ d := fun hsd => W0 hx (hsd ▸ List.mem_of_getElem? hi)
     rw [if_neg hne]; exact henv i s hi
   | some k =>
     have hk := Q3 hx; simp only [I8]; by_cases hki : k = i
     ·subst hki; have : s = d := by rw [hk] at hi; cases hi; rfl
      subst this; rw [if_pos rfl, A5p _ _ _ (by rw [hlen]; exact (List.getElem?_eq_some_iff.1 hk).1)]; exact hv
     ·rw [B2e _ _ _ _ hki]; have hne : s ≠ d := fun hsd => by
       subst hsd; obtain ⟨l1, e1⟩ := List.getElem?_eq_some_iff.1 hk; obtain ⟨l2, e2⟩ := List.getElem?_eq_some_iff.1 hi; exact hki ((List.getElem_inj hvs).1 (e1.trans e2.symm))
      rw [if_neg hne]; exact henv i s hi
theorem j6.run_next {Q : Exit → Act → World → Prop} {K : Act → World → Prop} {i : Nat} {ao : D9} {o : Oper} {nw : Bool} {KA : List Value → List Value → A1 → Prop} (hvs : vs.Nodup)
 (hD : j6 P lim n vs ops listed done ((i, ao) :: rem) π ts e t H β a w)
 (hpw : pwB (O2 n ops A) (done ++ (i, ao) :: rem) = true) (hA : C41 ops A = true) (hr : i ∈ Region.ready .any ops listed) (ho : ops[i]? = some o) (hfl : V3 o ao = false)
 (hg : A2f n ops ts o = some ao.guard) (hop : C5r P n vs ts nw o = some ao.op) (hdst : ao.dst = o.dst.bind (Q2 vs)) (hslot : D1 n o ≤ n ∧ (o.dst.isSome = true → D1 n o < n ∧ Q2 ts (D1 n o) = none))
 {g : Bool} (hgb : Y2 ao e t = some g)
 (hex : if g then A7w P lim ao.op e t H (fun v H' => KA (I8 e ao.dst v) (v :: t) H') else KA (I8 e ao.dst undef) (undef :: t) H)
 (hK : ∀ e' t' H' β' a' w', KA e' t' H' → Fr lim H β w H' β' w' → j6 P lim n vs ops (listed.setIfInBounds i true) (done ++ [(i, ao)]) rem π (D1 n o :: ts) e' t' H' β' a' w' → K a' w') : wpOp P ops Q i K a w := by
 obtain ⟨o', ho', hlt, hun, hall⟩ := A6y hr; rw [ho] at ho'; cases ho'; have hnd : ∀ x ∈ done, ∀ ox, ops[x.1]? = some ox → C49 n ops A x (i, ao) ox o := fun x hx ox hox =>
  B47 (A1j hpw x hx (i, ao) (by simp)) hox ho
 have hnotw : ∀ p ∈ π, p.1 ∉ A i := fun p hp => hD.notWaiting hA ho hall hp
 have hwait : ∀ p ∈ π, ∀ o2, ops[p.1]? = some o2 → D1 n o2 ∉ o.looksAt ops ∧ D1 n o2 ≠ D1 n o ∧ D1 n o ∉ o2.looksAt ops := by
  intro p hp o2 ho2; obtain ⟨ao2, hmem2, hW2⟩ := hD.pin p hp; obtain ⟨o2', _, _, _, _, ho2', hfl2, _⟩ := hW2.ex; rw [ho2] at ho2'; cases ho2'; have hpair := hnd (p.1, ao2) hmem2 o2 ho2; obtain ⟨q1, q2, q3⟩ := hpair.s1 hfl2; exact ⟨fun hm => hnotw p hp (q1 hm), q2.symm, fun hm => (q3 hm).elim hpair.before (hnotw p hp)⟩
 have hid : i ∉ done.map (·.1) := by
  intro hm; obtain ⟨x, hx, hxi⟩ := List.mem_map.1 hm; have := A1j hpw x hx (i, ao) (by simp); unfold O2 at this; cases hox : ops[x.1]? with
  | none => rw [hox] at this; cases this
  | some ox => exact (hnd x hx ox hox).ne hxi
 have hπd : ∀ p ∈ π, p.1 ∈ done.map (·.1) := by
  intro p hp; obtain ⟨ao', h1, _⟩ := hD.pin p hp; exact List.mem_map.2 ⟨_, h1, rfl⟩
 have hlie : ∀ s ∈ o.looksAt ops, ∀ u, Rel n ops π β a s u → VR β u (a.tmps.getD s undef) := by
  intro s hs u hR; exact hR.2 fun p2 hp2 o2 ho2 hso => (hwait p2 hp2 o2 ho2).1 (hso ▸ hs)
 have hwant : Region.wanted o (yielded ops a.tmps) = g :=
  B50 (β := β) hg hgb (fun k s hk hsn hs => hlie s hs _ (hD.tmp k s hk hsn)) hD.size
 have hren : ∀ x ∈ o.op.operands, ∀ y, A0k n vs ts x = some y → VR β (y.ev e t) (a.eval x) := by
  intro x hx y hy; cases x with
  | tmp s =>
    have hs : s ∈ o.looksAt ops := by
     unfold Oper.looksAt; refine List.mem_append.2 (.inl (List.mem_filterMap.2 ⟨.tmp s, by simpa using hx, rfl⟩))
    simp only [A0k] at hy; split at hy
    ·rename_i hsn; split at hy
     ·rename_i k hk; cases hy; exact hlie s hs _ (hD.tmp k s (Q3 hk) hsn)
     ·obtain ⟨k, hk2, rfl⟩ := Option.map_eq_some_iff.1 hy; exact hD.env k s (Q3 hk2)
    ·cases hy
  | const v =>
    simp only [A0k] at hy; split at hy
    ·rename_i hc; cases hy; exact VR.closed hc
    ·cases hy
  | func f => cases hy; exact .func rfl (by intro i v v' h; simp at h)
  | global g => cases hy
 have hafter : ∀ v v' H' β' w', VR β' v v' → WR lim β' H' w' → Fr lim H β w H' β' w' → (A0i ao.op = false → Ext H H') →
  j6 P lim n vs ops (listed.setIfInBounds i true) (done ++ [(i, ao)]) rem π (D1 n o :: ts) (I8 e ao.dst v) (v :: t) H' β' (a.put o.dst v') w' := by
  intro v v' H' β' w' hv hw' hf hx; rw [hdst]; obtain ⟨p1, p2, p3⟩ := D1z (a := a) (e := e) hD.size hD.len (fun k s hk => (hD.env k s hk).mono hf.le) hD.vlt hv hvs (fun h => (hslot.2 h).1); have hrel' : ∀ s u, s < n → s ≠ D1 n o → Rel n ops π β a s u → Rel n ops π β' (a.put o.dst v') s u := by
   intro s u hsn hne hR; refine ⟨hR.1, fun hn => ?_⟩; rw [p3 s hsn, if_neg hne]; exact (hR.2 hn).mono hf.le
  have hts : ∀ s ∈ ts, s < n → s ≠ D1 n o := by
   intro s hs hsn he; cases hd : o.dst with
   | none =>
     have : D1 n o = n := by simp [D1, hd]
     omega
   | some d =>
     have := (hslot.2 (by simp [hd])).2; exact W0 this (he ▸ hs)
  refine ⟨by simp [hD.lsize], ?_, ?_, ?_, ?_, hD.vlt, p1, by simp [hD.tlen], ?_, p2, ?_, ?_, ?_, hD.pnodup, hw'⟩
  ·intro j hj; rw [A9s (by rw [hD.lsize]; exact hlt)]; simp only [List.map_append, List.map_cons, List.map_nil, List.mem_append, List.mem_singleton]; by_cases hji : j = i
   ·subst hji; simp only [if_true, true_iff]; exact ⟨.inr trivial, fun hm => by
     obtain ⟨q, hq, hqe⟩ := List.mem_map.1 hm; exact hid (hqe ▸ hπd q hq)⟩
   ·rw [if_neg hji, hD.iff_ j hj]; simp [hji]
  ·intro j oj hj hl hoj ed hed hb; refine getD_set_true ?_; rw [A9s (by rw [hD.lsize]; exact hlt)] at hl; by_cases hji : j = i
   ·subst hji; rw [ho] at hoj; cases hoj; exact hall ed hed hb
   ·rw [if_neg hji] at hl; exact hD.closed j oj hj hl hoj ed hed hb
  ·cases hd : o.dst <;> simpa [Act.put] using hD.size
  ·cases hd : o.dst <;> simpa [Act.put] using hD.defers
  ·intro k s hk hs; cases k with
   | zero =>
     simp at hk; subst hk; exact A95
   | succ k =>
     have hk' : ts[k]? = some s := by simpa using hk
     have hne := hts s (List.mem_of_getElem? hk') hs; rw [B0w hne.symm, hD.uniq k s hk' hs]; rfl
  ·intro k s hk hs; cases k with
   | zero =>
     simp at hk; subst hk; refine ⟨fun p hp o2 ho2 hso => absurd hso (hwait p hp o2 ho2).2.1, fun _ => ?_⟩; rw [p3 _ hs, if_pos rfl]; exact hv
   | succ k =>
     have hk' : ts[k]? = some s := by simpa using hk
     exact hrel' s _ hs (hts s (List.mem_of_getElem? hk') hs) (hD.tmp k s hk' hs)
  ·intro p hp; obtain ⟨ao2, hmem2, hW2⟩ := hD.pin p hp; obtain ⟨o2, tsp2, ep2, tp2, g2, k1, k2, k3, k4, k5, k6, k7, k8, k9⟩ := hW2.ex; have hne2 := (hwait p hp o2 k1).2.2; refine ⟨ao2, by simp [hmem2], ⟨o2, tsp2, ep2, tp2, g2, k1, k2, k3, k4, k5, ?_, k7, ?_, k9⟩⟩
   ·intro hg2; obtain ⟨q, q1, q2, q3⟩ := k6 hg2; refine ⟨q, q1, q2, ?_⟩; cases hload : B46 (.pure q) with
    | false => exact POp.ev_heap hload q3
    | true =>
      have hwr : A0i ao.op = false := by
       cases hww : A0i ao.op with
       | false => rfl
       | true =>
         have hpair := hnd (p.1, ao2) hmem2 o2 k1; exact absurd (hpair.load k2 (by rw [q1]; exact hload) hww) (hnotw p hp)
      have hext := hx hwr; exact POp.ev_mono (fun b cs hb => by rw [hext.blk b (hD.wr.lt hb)]; exact hb) q3
   ·intro s hs hsn; have hne : s ≠ D1 n o := fun h => hne2 (h ▸ hs)
    exact ⟨fun k hk => hrel' s _ hsn hne ((k8 s hs hsn).1 k hk), fun h0 k hk => hrel' s _ hsn hne ((k8 s hs hsn).2 h0 k hk)⟩
  ·intro p hp o2 ho2; obtain ⟨q1, q2, q3⟩ := hD.pslot p hp o2 ho2; exact ⟨by simp [q1], q2, q3⟩
 unfold wpOp; simp only [ho]; rw [hwant]; cases g with
 | true =>
   simp only [if_true] at hex ⊢; exact .inl (D2o hop hex hD.wr hren fun v v' H' β' w' hKA hv hw' hf hx => hK _ _ _ _ _ _ hKA hf (hafter v v' H' β' w' hv hw' hf hx))
 | false =>
   simp only [Bool.false_eq_true, if_false] at hex ⊢; exact hK _ _ _ _ _ _ hex (Fr.refl _ _ _ _) (hafter undef undef H β w (VR.undef β) hD.wr (Fr.refl _ _ _ _) (fun _ => Ext.refl _))
def A7b (P : Program) (n : Nat) (vs : List Nat) (ops : Array Oper) (L : List Nat → Prop) : B0 → List Nat → Prop
 | .nil, ts => L ts
 | .op i ao k, ts => ∃ o nw, ops[i]? = some o ∧ A2f n ops ts o = some ao.guard ∧ C5r P n vs ts nw o = some ao.op ∧ ao.dst = o.dst.bind (Q2 vs) ∧
  (D1 n o ≤ n ∧ (o.dst.isSome = true → D1 n o < n ∧ Q2 ts (D1 n o) = none)) ∧ A7b P n vs ops L k (D1 n o :: ts)
 | .alt a b, ts => A7b P n vs ops L a ts ∧ A7b P n vs ops L b ts
def T6 (P : Program) (lim : Nat) : B0 → (List Value → List Value → A1 → Prop) → List Value → List Value → A1 → Prop
 | .nil, Q, e, t, H => Q e t H
 | .op _ o k, Q, e, t, H => ∃ g, Y2 o e t = some g ∧
  if g then A7w P lim o.op e t H (fun v H' => T6 P lim k Q (I8 e o.dst v) (v :: t) H')
  else T6 P lim k Q (I8 e o.dst undef) (undef :: t) H
 | .alt a b, Q, e, t, H => T6 P lim a Q e t H ∧ T6 P lim b Q e t H
theorem B3m {Q : List Value → List Value → A1 → Prop} : ∀ (K : List (Nat × D9)) (e t : List Value) (H : A1), T6 P lim (.ofList K) Q e t H = D8 P lim (K.map (·.2)) Q e t H
 | [], e, t, H => rfl
 | x :: l, e, t, H => by
   simp only [B0.ofList, T6, List.map_cons, D8]; simp only [B3m l]
theorem j6.swap (hD : j6 P lim n vs ops listed done rem π ts e t H β a w) (rem' : List (Nat × D9)) : j6 P lim n vs ops listed done rem' π ts e t H β a w :=
 ⟨hD.lsize, hD.iff_, hD.closed, hD.size, hD.defers, hD.vlt, hD.len, hD.tlen, hD.uniq, hD.env, hD.tmp, hD.pin, hD.pslot, hD.pnodup, hD.wr⟩
theorem B60 {α : Type} {f : α → α → Bool} {y : α} : ∀ {l : List α}, pwB f l = true → l.all (fun x => f x y) = true → pwB f (l ++ [y]) = true
 | [], _, _ => rfl
 | x :: l, h, k => by
   simp only [List.cons_append, pwB, List.all_cons, Bool.and_eq_true, List.all_append, List.all_nil, Bool.and_true] at h k ⊢; exact ⟨⟨h.1, k.1⟩, B60 h.2 k.2⟩
theorem A85 : ∀ {T : B0} {done : List (Nat × D9)}, Z4 n ops A done false T = true → 1 ≤ T.depth
 | .nil, done, h => by simp [Z4] at h
 | .op i ao k, done, h => by simp [B0.depth]
 | .alt x y, done, h => by
   simp only [Z4, Bool.and_eq_true] at h; have h1 := A85 h.1.2; have h2 := A85 h.2; simp only [B0.depth]; cases Nat.ble x.depth y.depth
   ·exact h1
   ·exact h2
theorem C0i (x y : B0) : x.depth ≤ (B0.alt x y).depth ∧ y.depth ≤ (B0.alt x y).depth := by
 simp only [B0.depth]; cases h : Nat.ble x.depth y.depth
 ·have : ¬ x.depth ≤ y.depth := fun hle => by rw [Nat.ble_eq_true_of_le hle] at h; cases h
  simp; omega
 ·have := Nat.le_of_ble_eq_true h; simp; omega
theorem B21 {L : List Nat → Prop} {Q : List Value → List Value → A1 → Prop} {i : Nat} : ∀ {T : B0} {top : Bool}, Z4 n ops A done top T = true → (∀ j ao k, T = .op j ao k → A39 ops j ao = false) → i ∈ T.heads → A7b P n vs ops L T ts → T6 P lim T Q e t H →
 ∃ ao k, done.all (fun x => O2 n ops A x (i, ao)) = true ∧ B1q n ops (i, ao) = true ∧ A39 ops i ao = false ∧ Z4 n ops A (done ++ [(i, ao)]) true k = true ∧ A7b P n vs ops L (.op i ao k) ts ∧ T6 P lim (.op i ao k) Q e t H ∧ k.depth + 1 ≤ T.depth
 | .nil, top, h, hf, hi, hR, hA => by simp [B0.heads] at hi
 | .op j ao k, top, h, hf, hi, hR, hA => by
   simp only [B0.heads, List.mem_singleton] at hi; subst hi; simp only [Z4, Bool.and_eq_true] at h; exact ⟨ao, k, h.1.1.1, h.1.1.2, hf _ _ _ rfl, h.2, hR, hA, Nat.le_refl _⟩
 | .alt x y, top, h, hf, hi, hR, hA => by
   simp only [Z4, Bool.and_eq_true] at h; have fl : ∀ {T : B0}, Z4 n ops A done false T = true → ∀ j ao k, T = .op j ao k → A39 ops j ao = false := by
    rintro T h j ao k rfl; simp only [Z4, Bool.and_eq_true, Bool.false_eq_true, if_false, Bool.not_eq_true'] at h; exact h.1.2
   obtain ⟨d1, d2⟩ := C0i x y; rcases List.mem_append.1 hi with hi | hi
   ·obtain ⟨ao, k, h1, h2, h3, h4, h5, h6, h7⟩ := B21 h.1.2 (fl h.1.2) hi hR.1 hA.1; exact ⟨ao, k, h1, h2, h3, h4, h5, h6, by omega⟩
   ·obtain ⟨ao, k, h1, h2, h3, h4, h5, h6, h7⟩ := B21 h.2 (fl h.2) hi hR.2 hA.2; exact ⟨ao, k, h1, h2, h3, h4, h5, h6, by omega⟩
theorem B2i : ∀ {T : B0} {top : Bool}, Z4 n ops A done top T = true → T ≠ .nil → ∃ c ∈ T.heads, c ∉ done.map (·.1) ∧ c < ops.size
 | .nil, top, h, hne => absurd rfl hne
 | .op j ao k, top, h, hne => by
   simp only [Z4, Bool.and_eq_true] at h; refine ⟨j, by simp [B0.heads], ?_, ?_⟩
   ·intro hm; obtain ⟨x, hx, hxj⟩ := List.mem_map.1 hm; have := (List.all_eq_true.1 h.1.1.1) x hx; unfold O2 at this; split at this
    ·simp only [Bool.and_eq_true, Bool.not_eq_true'] at this; have h0 := this.1.1.1.1; rw [hxj] at h0; simp at h0
    ·cases this
   ·have := h.1.1.2; unfold B1q at this; split at this
    ·rename_i o ho; exact (Array.getElem?_eq_some_iff.1 ho).1
    ·cases this
 | .alt x y, top, h, hne => by
   simp only [Z4, Bool.and_eq_true] at h; have hx : x ≠ .nil := by rintro rfl; simp [Z4] at h
   obtain ⟨c, h1, h2⟩ := B2i h.1.2 hx; exact ⟨c, by simp [B0.heads, h1], h2⟩
theorem j6.norm {L : List Nat → Prop} {Q : List Value → List Value → A1 → Prop} : ∀ (T : B0) (done : List (Nat × D9)) (π : List B8l) (ts : List Nat) (t : List Value),
 j6 P lim n vs ops listed done [] π ts e t H β a w → pwB (O2 n ops A) done = true → (∀ x ∈ done, B1q n ops x = true) → Z4 n ops A done true T = true → A7b P n vs ops L T ts → T6 P lim T Q e t H →
 ∃ T' done' π' ts1 t1, j6 P lim n vs ops listed done' [] π' ts1 e t1 H β a w ∧ pwB (O2 n ops A) done' = true ∧ (∀ x ∈ done', B1q n ops x = true) ∧ Z4 n ops A done' true T' = true ∧ A7b P n vs ops L T' ts1 ∧ T6 P lim T' Q e t1 H ∧
  T'.depth + π'.length ≤ T.depth + π.length ∧ (∀ j ao k, T' = .op j ao k → A39 ops j ao = false)
 | .nil, done, π, ts, t, hD, hpw, hself, hok, hR, hA => ⟨.nil, done, π, ts, t, hD, hpw, hself, hok, hR, hA, Nat.le_refl _, by intro j ao k h; cases h⟩
 | .alt x y, done, π, ts, t, hD, hpw, hself, hok, hR, hA => ⟨.alt x y, done, π, ts, t, hD, hpw, hself, hok, hR, hA, Nat.le_refl _, by intro j ao k h; cases h⟩
 | .op i ao k, done, π, ts, t, hD, hpw, hself, hok, hR, hA => by
   cases hfl0 : A39 ops i ao with
   | false => exact ⟨.op i ao k, done, π, ts, t, hD, hpw, hself, hok, hR, hA, Nat.le_refl _, by intro j ao k h; cases h; exact hfl0⟩
   | true =>
     obtain ⟨o, nw, ho, hg, hop, hdst, hslot, hR'⟩ := hR; have hfl : V3 o ao = true := by simpa [A39, ho] using hfl0
     simp only [Z4, Bool.and_eq_true] at hok; obtain ⟨⟨⟨hpair, hs1⟩, _⟩, hok'⟩ := hok; have hpw2 := B60 hpw hpair; have hself2 : ∀ x ∈ done ++ [(i, ao)], B1q n ops x = true := by
      intro x hx; rcases List.mem_append.1 hx with hx | hx
      ·exact hself x hx
      ·simp at hx; subst hx; exact hs1
     have hfl2 := hfl; unfold V3 at hfl2; simp only [Bool.and_eq_true] at hfl2; obtain ⟨f1, f2⟩ := hfl2; obtain ⟨d, hd⟩ := Option.isSome_iff_exists.1 f1; have hsl : D1 n o = d := by simp [D1, hd]
     obtain ⟨p, hp⟩ : ∃ p, ao.op = .pure p := by
      cases hq : ao.op with
      | pure p => exact ⟨p, rfl⟩
      | eff x => rw [hq] at f2; cases f2
      | call a b c => rw [hq] at f2; cases f2
     rw [hp] at f2; have hdn : ao.dst = none := by simpa using f2
     have hvn : Q2 vs (D1 n o) = none := by
      rw [hdst, hd] at hdn; rw [hsl]; simpa using hdn
     have htp : trP P (A0k n vs ts) o.op = some p := by
      rw [hp] at hop; unfold C5r at hop; split at hop
      ·rename_i p' hp'; split at hop
       ·cases hop
       ·cases hop; exact hp'
      ·split at hop
       ·cases hop
       ·split at hop
        ·split at hop
         ·obtain ⟨_, _, hop⟩ := Option.bind_eq_some_iff.1 hop; split at hop
          ·cases hop
          ·obtain ⟨_, _, hop⟩ := Option.map_eq_some_iff.1 hop; cases hop
         ·cases hop
        ·cases hop
     obtain ⟨g, hgb, hA⟩ := hA; rw [hdn] at hA; cases g with
     | true =>
       simp only [if_true, hp] at hA; obtain ⟨v, hv, hA⟩ := hA; have hD' := (hD.swap [(i, ao)]).advance (v := v) hpw2 ho hfl (hslot.2 f1).1 (hslot.2 f1).2 hvn hg hgb (fun _ => ⟨p, hp, htp, hv⟩) (by intro h; cases h); obtain ⟨T', done', π', ts1, t1, q1, q2, q3, q4, q5, q6, q7, q8⟩ := j6.norm k _ _ _ _ hD' hpw2 hself2 hok' hR' hA; exact ⟨T', done', π', ts1, t1, q1, q2, q3, q4, q5, q6, by simp [B0.depth] at q7 ⊢; omega, q8⟩
     | false =>
       simp only [Bool.false_eq_true, if_false] at hA; have hD' := (hD.swap [(i, ao)]).advance (v := undef) hpw2 ho hfl (hslot.2 f1).1 (hslot.2 f1).2 hvn hg hgb (by intro h; cases h) (fun _ => rfl); obtain ⟨T', done', π', ts1, t1, q1, q2, q3, q4, q5, q6, q7, q8⟩ := j6.norm k _ _ _ _ hD' hpw2 hself2 hok' hR' hA; exact ⟨T', done', π', ts1, t1, q1, q2, q3, q4, q5, q6, by simp [B0.depth] at q7 ⊢; omega, q8⟩
theorem B7g (hsz : listed.size = ops.size) : ∀ (K seen : List Nat), C22 ops seen K = true → (∀ j ∈ seen, listed.getD j false = true) → (∃ i ∈ K, listed.getD i true = false) → Region.ready .any ops listed ≠ []
 | [], seen, ht, hs, ⟨i, hi, _⟩ => by simp at hi
 | k :: K, seen, ht, hs, ⟨i, hi, hl⟩ => by
   simp only [C22, Bool.and_eq_true] at ht; obtain ⟨h1, h2⟩ := ht; cases hok : ops[k]? with
   | none => rw [hok] at h1; cases h1
   | some o =>
     rw [hok] at h1; simp only [List.all_eq_true, Bool.or_eq_true, Bool.not_eq_true'] at h1; have hdeps : ∀ ed ∈ o.after, Region.binds .any ed = true → listed.getD ed.on false = true := by
      intro ed hed hb; rcases h1 ed (by simpa using hed) with h | h
      ·rw [hb] at h; cases h
      ·exact hs _ (K6.1 h)
     cases hlk : listed.getD k true with
     | false =>
       intro hemp; have : k ∈ Region.ready .any ops listed := mem_ready.2 ⟨hlk, o, hok, hdeps⟩; rw [hemp] at this; simp at this
     | true =>
       have hklt : k < listed.size := by rw [hsz]; exact (Array.getElem?_eq_some_iff.1 hok).1
       refine B7g hsz K (k :: seen) h2 ?_ ⟨i, ?_, hl⟩
       ·intro j hj; rcases List.mem_cons.1 hj with rfl | hj
        ·simp only [Array.getD, hklt, dite_true] at hlk ⊢; exact hlk
        ·exact hs j hj
       ·rcases List.mem_cons.1 hi with rfl | hi
        ·rw [hl] at hlk; cases hlk
        ·exact hi
def B72 (lim n : Nat) (vs : List Nat) (L : List Nat → Prop) (Q : List Value → List Value → A1 → Prop) (H0 : A1) (β0 : Inj) (w0 : World) : Exit → Act → World → Prop :=
 fun ex a' w' => ex = .normal ∧ ∃ ts' e' t' H' β', L ts' ∧ Q e' t' H' ∧ St vs ts' n β' e' t' a' ∧ WR lim β' H' w' ∧ Fr lim H0 β0 w0 H' β' w'
theorem C7t (hvs : vs.Nodup) {L : List Nat → Prop} {Q : List Value → List Value → A1 → Prop} {H0 : A1} {β0 : Inj} {w0 : World} {κ : List Nat} (hanc : C41 ops A = true) (htopo : C22 ops [] κ = true) (hκ : (List.range ops.size).all (Z3 κ) = true) :
 ∀ (fuel : Nat) (listed : Array Bool) (done : List (Nat × D9)) (T : B0) (π : List B8l) (ts : List Nat) (e t : List Value) (H : A1) (β : Inj) (a : Act) (w : World),
  j6 P lim n vs ops listed done [] π ts e t H β a w → pwB (O2 n ops A) done = true → (∀ x ∈ done, B1q n ops x = true) → Z4 n ops A done true T = true → A7b P n vs ops L T ts → T6 P lim T Q e t H → Fr lim H0 β0 w0 H β w → T.depth + π.length ≤ fuel →
  wpAny P .any ops (B72 lim n vs L Q H0 β0 w0) fuel listed a w := by
 have fin : ∀ (listed : Array Bool) (done : List (Nat × D9)) (T : B0) (π : List B8l) (ts : List Nat) (e t : List Value) (H : A1) (β : Inj) (a : Act) (w : World),
  j6 P lim n vs ops listed done [] π ts e t H β a w → A7b P n vs ops L T ts → T6 P lim T Q e t H → Fr lim H0 β0 w0 H β w → T = .nil → π = [] → B72 lim n vs L Q H0 β0 w0 .normal a w := by
  rintro listed done T π ts e t H β a w hD hR hA hf rfl rfl; exact ⟨rfl, ts, e, t, H, β, hR, hA, ⟨hD.size, hD.defers, hD.vlt, hD.len, hD.tlen, hD.env, fun k s hk hs => (hD.tmp k s hk hs).2 (by intro p hp; simp at hp)⟩, hD.wr, hf⟩
 intro fuel
 induction fuel with
 | zero =>
   intro listed done T π ts e t H β a w hD hpw hself hok hR hA hf hc; have hp0 : π = [] := List.eq_nil_of_length_eq_zero (by omega); have hT : T = .nil := by
    cases T with
    | nil => rfl
    | op i ao k => simp [B0.depth] at hc
    | alt x y =>
      simp only [Z4, Bool.and_eq_true] at hok; have h1 := A85 hok.2; have h2 := (C0i x y).2; omega
   refine ⟨?_, fin _ _ _ _ _ _ _ _ _ _ _ hD hR hA hf hT hp0⟩; subst hT hp0; simp only [Z4, Bool.true_and, List.all_eq_true, List.mem_range] at hok; have hlist : ∀ i, i < ops.size → listed.getD i true = true := fun i hi => (hD.iff_ i hi).2 ⟨K6.1 (hok i hi), by simp⟩
   rcases hre : Region.ready .any ops listed with _ | ⟨j, l⟩
   ·rfl
   ·have hj : j ∈ Region.ready .any ops listed := by rw [hre]; simp
    obtain ⟨o, ho, hlt, hun, _⟩ := A6y hj; rw [hlist j hlt] at hun; cases hun
 | succ fuel ih =>
   intro listed done T π ts e t H β a w hD hpw hself hok hR hA hf hc; obtain ⟨T', done', π', ts1, t1, q1, q2, q3, q4, q5, q6, q7, q8⟩ := j6.norm (A := A) T done π ts t hD hpw hself hok hR hA; refine ⟨fun hre => ?_, fun i hi => ?_⟩
   ·-- nothing may come up: all has come up
    have hlist : ∀ i, i < ops.size → listed.getD i true = true := by
     intro i hi; cases hl : listed.getD i true with
     | true => rfl
     | false => exact absurd hre (B7g q1.lsize _ [] htopo (by intro j hj; simp at hj) ⟨i, K6.1 ((List.all_eq_true.1 hκ) i (List.mem_range.2 hi)), hl⟩)
    have hT : T' = .nil := by
     cases hT' : T' with
     | nil => rfl
     | _ =>
       exfalso
       obtain ⟨c, c1, c2, c3⟩ := B2i q4 (by rw [hT']; intro h; cases h); exact c2 ((q1.iff_ c c3).1 (hlist c c3)).1
    have hp0 : π' = [] := by
     cases π' with
     | nil => rfl
     | cons p l =>
       exfalso
       obtain ⟨ao, hmem, hW⟩ := q1.pin p (by simp); obtain ⟨o, _, _, _, _, ho, _⟩ := hW.ex; have hlt := (Array.getElem?_eq_some_iff.1 ho).1; exact ((q1.iff_ p.1 hlt).1 (hlist p.1 hlt)).2 (by simp)
    exact fin _ _ _ _ _ _ _ _ _ _ _ q1 q5 q6 hf hT hp0
   ·obtain ⟨o, ho, hlt, hun, hdeps⟩ := A6y hi; by_cases hiπ : i ∈ π'.map (·.1)
    ·refine q1.run_wait (A := A) (by rw [List.append_nil]; exact q2) q3 hanc hi hiπ ?_; intro a' hD'; refine ih _ done' T' _ ts1 e t1 H β a' w hD' q2 q3 q4 q5 q6 hf ?_; have : (π'.filter fun q => q.1 != i).length < π'.length := by
      obtain ⟨p, hp, hpi⟩ := List.mem_map.1 hiπ; exact List.length_filter_lt_length_iff_exists.2 ⟨p, hp, by simp [hpi]⟩
     omega
    ·-- it is one of the heads
     have hnd : i ∉ done'.map (·.1) := fun hm => by
      have := (q1.iff_ i hlt).2 ⟨hm, hiπ⟩; rw [hun] at this; cases this
     have hnh : ∀ c, c ∉ done'.map (·.1) → c < ops.size → c ∉ A i := by
      intro c c1 c2 hm; have hl := C3o (B6a hanc q1.lsize q1.closed i o ho hdeps c hm); exact c1 ((q1.iff_ c c2).1 hl).1
     have hcompl : ∀ hs, C5g ops A done' hs = true → (∀ c ∈ hs, c ∉ done'.map (·.1) ∧ c < ops.size) → i ∈ hs := by
      intro hs h hh; have := (List.all_eq_true.1 h) i (List.mem_range.2 hlt); simp only [Bool.or_eq_true, List.any_eq_true] at this; rcases this with (h1 | h1) | ⟨c, hc1, hc2⟩
      ·exact absurd (K6.1 h1) hnd
      ·exact K6.1 h1
      ·exact absurd (K6.1 hc2) (hnh c (hh c hc1).1 (hh c hc1).2)
     have hheads : ∀ {T : B0} {top : Bool}, Z4 n ops A done' top T = true → ∀ c ∈ T.heads, c ∉ done'.map (·.1) ∧ c < ops.size := by
      intro T
      induction T with
      | nil => intro top h c hc; simp [B0.heads] at hc
      | op j ao k _ =>
        intro top h c hc; obtain ⟨c', h1, h2⟩ := B2i h (by intro h; cases h); simp only [B0.heads, List.mem_singleton] at h1 hc; subst h1 hc; exact h2
      | alt x y ihx ihy =>
        intro top h c hc; simp only [Z4, Bool.and_eq_true] at h; rcases List.mem_append.1 hc with hc | hc
        ·exact ihx h.1.2 c hc
        ·exact ihy h.2 c hc
     have hih : i ∈ T'.heads := by
      cases hT' : T' with
      | nil =>
        rw [hT'] at q4; simp only [Z4, Bool.true_and, List.all_eq_true, List.mem_range] at q4; exact absurd (K6.1 (q4 i hlt)) hnd
      | op j ao k =>
        have hh := hheads q4; have hf8 := q8 j ao k hT'; rw [hT'] at q4 hh; simp only [Z4, Bool.and_eq_true, if_true, hf8, Bool.false_or] at q4; exact hcompl _ q4.1.2 hh
      | alt x y =>
        have hh := hheads q4; rw [hT'] at q4 hh; simp only [Z4, Bool.and_eq_true, Bool.not_true, Bool.false_or] at q4; exact hcompl _ q4.1.1 hh
     obtain ⟨aoc, k, p1, p2, p3, p4, p5, p6, p7⟩ := B21 q4 q8 hih q5 q6; obtain ⟨oc, nw, hoc, hg, hop, hdst, hslot, hR'⟩ := p5; rw [ho] at hoc; cases hoc; have hfl : V3 o aoc = false := by simpa [A39, ho] using p3
     obtain ⟨g, hgb, hA'⟩ := p6; have hpw2 := B60 q2 p1; refine (q1.swap [(i, aoc)]).run_next hvs (A := A) (KA := fun e' t' H' => T6 P lim k Q e' t' H') hpw2 hanc hi ho hfl hg hop hdst hslot hgb hA' ?_; intro e' t' H' β' a' w' hKA hfr hD'; refine ih _ _ k π' _ e' t' H' β' a' w' hD' hpw2 ?_ p4 hR' hKA (hf.trans hfr) (by omega); intro x hx; rcases List.mem_append.1 hx with hx | hx
     ·exact q3 x hx
     ·simp at hx; subst hx; exact p2
theorem C65 (hvs : vs.Nodup) {L : List Nat → Prop} {Q : List Value → List Value → A1 → Prop} {κ : List Nat} {T : B0} (hok : okD n ops A κ T = true)
 (htr : A7b P n vs ops L T []) {id : Nat} (hm : P.follows .mixedOrders = true)
 (hs : St vs [] n β e [] a) (hw : WR lim β H w) (hA : T6 P lim T Q e [] H) :
 (Code.region id ops true).wp P (B72 lim n vs L Q H β w) a w := by
 simp only [okD, Bool.and_eq_true] at hok; obtain ⟨⟨⟨⟨hok, hanc⟩, htopo⟩, hall⟩, hdep⟩ := hok; refine wp_region_any hm ?_; refine C7t hvs hanc htopo hall ops.size _ [] T [] [] e [] H β a _ ?_ rfl (by simp) hok htr hA (Fr.drew _ _ _ _) (by have := Nat.le_of_ble_eq_true hdep; simpa using this); refine ⟨by simp, ?_, ?_, hs.size, hs.defers, hs.vlt, hs.len, hs.tlen, by intro k s hk; simp at hk, hs.env, by intro k s hk; simp at hk, by intro p hp; simp at hp, by intro p hp; simp at hp, by simp, hw.drew⟩
 ·intro i hi; simp [Array.getD, hi]
 ·intro i o hi hl; simp [Array.getD, hi] at hl
end
end Go.Ab
