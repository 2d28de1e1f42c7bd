/- A part of the proof of a statement of this seat: the program logic; no condition. -/
import Derived.Test.YtmdeppkfboaepaaGreatAbOps
import Derived.Laws.StructEq
import Derived.RegionTactic
namespace Go.Ab
set_option linter.unusedVariables false
set_option linter.unusedSimpArgs false
def B8u (ren : Operand → Option Opd) : Option Operand → Option (Option Opd)
 | none => some none
 | some x => (ren x).map some
def C2v (ren : Operand → Option Opd) : List Operand → Option (List Opd)
 | [] => some []
 | x :: l => (ren x).bind fun a => (C2v ren l).map fun as => a :: as
def A6w (P : Program) (t : TypeId) (i : Nat) : Option (Nat × Nat) :=
 match P.underlying t with
 | some (.struct fs) => (fs[i]?).bind fun f => (P.info? f.type).map fun k => (f.offset, k.size)
 | some (.array _ e) => (P.info? e).map fun k => (i * k.size, k.size)
 | _ => none
def B77 (P : Program) (t : TypeId) (ren : Operand → Option Opd) : List (Nat × Operand) → Option (List (Nat × Nat × Opd))
 | [] => some []
 | (i, x) :: l => (ren x).bind fun a => (A6w P t i).bind fun pl => (B77 P t ren l).map fun as => (pl.1, pl.2, a) :: as
def M0 : Value → Bool
 | .bool _ | .int _ _ | .string _ | .float _ _ | .pointer none | .slice none 0 0 | .nilFunc | .nilIface => true
 | _ => false
theorem VR.closed {β : Inj} {v : Value} (h : M0 v = true) : VR β v v := by
 unfold M0 at h; split at h
 ·exact .bool _
 ·exact .int _ _
 ·exact .string _
 ·exact .float _ _
 ·exact .ptrNil
 ·exact .sliceNil
 ·exact .nilFunc
 ·exact .nilIface
 ·cases h
def d7 (P : Program) (t : TypeId) : Option Bool :=
 match P.underlying t with
 | some (.struct _) => some true
 | some (.array _ _) => some true
 | some _ => some false
 | none => none
def C01 (P : Program) (t : TypeId) : Bool :=
 match P.underlying t with
 | some (.struct fs) => fs.toList.all fun f => (P.info? f.type).isSome
 | some (.array _ e) => (P.info? e).isSome
 | _ => false
def A3e (P : Program) : List Field → Nat → Bool
 | [], _ => true
 | f :: l, k => f.name != "_" && Nat.beq f.offset k && (match P.underlying f.type with | some (.int _) => true | _ => false) && A3e P l (k + 1)
def trP (P : Program) (ren : Operand → Option Opd) : Op → Option POp
 | .move x => (ren x).map .id
 | .assign x => (ren x).map .id
 | .pick c a b => (ren c).bind fun c => (ren a).bind fun a => (ren b).map fun b => .pick c a b
 | .binOp op t x y _ =>
   if op = .eql ∨ op = .neq then
    match P.underlying t with
    | some (.int _) => (ren x).bind fun x => (ren y).map fun y => .bin op x y
    | some .string => (ren x).bind fun x => (ren y).map fun y => .bin op x y
    | some .bool => (ren x).bind fun x => (ren y).map fun y => .beq (op == .neq) x y
    | some (.slice _) => match y with | .const (.slice none 0 0) => (ren x).map fun x => .isnil .slice (op == .neq) x | _ => none
    | some (.pointer _) => match y with | .const (.pointer none) => (ren x).map fun x => .isnil .pointer (op == .neq) x | _ => none
    | some (.func _ _ _) => match y with | .const .nilFunc => (ren x).map fun x => .isnil .func (op == .neq) x | _ => none
    | some (.interface _) => match y with | .const .nilIface => (ren x).map fun x => .isnil .iface (op == .neq) x | _ => none
    | some (.struct fs) => if (A3e P fs.toList 0 && !P.stoodInHeld t && !P.eqGuardType P.depth t) = true then (ren x).bind fun x => (ren y).map fun y => .eqI (op == .neq) fs.size x y else none
    | _ => none
   else (ren x).bind fun x => (ren y).map fun y => .bin op x y
 | .unOp op _ x => (ren x).map fun x => .un op x
 | .convert s d x =>
   match P.underlying s, P.underlying d with
   | some (.int _), some (.int k) => (ren x).map fun x => .conv k x
   | _, _ => none
 | .load t a => (d7 P t).bind fun g => if g then (P.info? t).bind fun i => (ren a).map fun a => .loadN i.size a else (ren a).map fun a => .load1 a
 | .nilCheck x => (ren x).map fun x => .nilchk x
 | .fieldAddr s x f =>
   match P.underlying s with
   | some (.struct fs) => (fs[f]?).bind fun fd => (P.info? fd.type).bind fun i => if i.size = 0 then none else (ren x).map fun x => .fad fd.offset x
   | _ => none
 | .field s x f =>
   match P.underlying s with
   | some (.struct fs) => (fs[f]?).bind fun fd => (d7 P fd.type).bind fun g =>
    if g then (P.info? fd.type).bind fun i => (ren x).map fun x => .fldN fd.offset i.size x else (ren x).map fun x => .fld1 fd.offset x
   | _ => none
 | .indexAddr t x i =>
   match P.underlying t with
   | some (.slice e) => (P.info? e).bind fun k => (ren x).bind fun x => (ren i).map fun i => .iad k.size x i
   | some (.array n e) => (P.info? e).bind fun k => (ren x).bind fun x => (ren i).map fun i => .aad n k.size x i
   | _ => none
 | .index t x i =>
   match P.underlying t with
   | some .string => (ren x).bind fun x => (ren i).map fun i => .six x i
   | some (.array n e) => (d7 P e).bind fun g => if g then none else (P.info? e).bind fun k => (ren x).bind fun x => (ren i).map fun i => .aix1 n k.size x i
   | _ => none
 | .extract x i => (ren x).map fun x => .ext i x
 | .slice t x lo hi mx =>
   match P.underlying t with
   | some (.slice e) => (P.info? e).bind fun k => (ren x).bind fun x => (B8u ren lo).bind fun lo => (B8u ren hi).bind fun hi => (B8u ren mx).map fun mx => .slc k.size x lo hi mx
   | some (.array n e) => (P.info? e).bind fun k => (ren x).bind fun x => (B8u ren lo).bind fun lo => (B8u ren hi).bind fun hi => (B8u ren mx).map fun mx => .aslc n k.size x lo hi mx
   | some .string => match mx with | none => (ren x).bind fun x => (B8u ren lo).bind fun lo => (B8u ren hi).map fun hi => .sslc x lo hi | some _ => none
   | _ => none
 | .makeFunc (.func f) first caps => if first.size = 0 then (C2v ren caps.toList).map fun l => .fn f l else none
 | .build t parts => (P.info? t).bind fun k => match k.zero with
   | some z => if (z.cells.all M0) = true ∧ C01 P t = true then (B77 P t ren parts.toList).map fun l => .bld z.cells.toList l else none
   | none => none
 | .call c =>
   match c.callee, c.args.toList, c.argTypes.toList with
   | .builtin .len, [x], [t] => match P.underlying t with
     | some (.slice _) => (ren x).map fun x => .len x
     | some .string => (ren x).map fun x => .slen x
     | _ => none
   | .builtin .cap, [x], [t] => match P.underlying t with
     | some (.slice _) => (ren x).map fun x => .cap x
     | _ => none
   | .builtin .max, [x, y], _ => (ren x).bind fun x => (ren y).map fun y => .max2 x y
   | .builtin .min, [x, y], _ => (ren x).bind fun x => (ren y).map fun y => .min2 x y
   | _, _, _ => none
 | _ => none
def D0u (P : Program) (β : Inj) (w : World) (ρ : Operand → Value) (o : Oper) (v : Value) : Prop :=
 ∃ v', (execOp ρ o).run P w = .ok (.value v') w ∧ VR β v v'
section
variable {P : Program} {β : Inj} {H : A1} {w : World} {lim : Nat} {ρ : Operand → Value} {ren : Operand → Option Opd} {e t : List Value} {o : Oper} {v : Value} {p : POp}
theorem C1k {op : BinOp} {xt : TypeId} {x y : Operand} {yt : TypeId} {a b a' b' : Value} (h : J9 op a b = some v) (ha : VR β a a') (hb : VR β b b')
 : (do eqGuard op xt x y a' b'; Go.binOp op xt a' b' : Sem Value).run P w = .ok v w := by
 unfold J9 at h; split at h
 ·rename_i k m k' n; cases ha; cases hb; have hg : ∀ (f : Unit → Sem Value), ((eqGuard op xt x y (.int k m) (.int k' n)) >>= f).run P w = (f ()).run P w := by
   intro f; unfold eqGuard; by_cases h1 : (op matches .eql | .neq) = true
   ·simp [h1]
   ·simp [h1]
  rw [hg]; cases op <;> simp only [Go.binOp] at h ⊢
  all_goals first
   | (split at h
      ·cases h
      ·rename_i hk; obtain rfl : k = k' := by simpa using hk
       simp only [ne_eq, not_true_eq_false, if_false]
       first
        | (simp only [Op.intArith, Op.intCmp, Option.some.injEq] at h ⊢; subst h; rfl)
        | (simp only [Op.intBits, Option.some.injEq] at h ⊢; subst h; rfl)
        | (simp only [Op.intDiv] at h ⊢
           split at h
           ·cases h
           ·rename_i hz; rw [if_neg hz]; simp only [Option.some.injEq] at h; subst h; rfl)
        | cases h)
   | (split at h
      ·cases h
      ·rename_i hz; simp only [Op.shift, if_neg hz, Option.some.injEq] at h ⊢; subst h; rfl)
 ·rename_i s u; cases ha; cases hb; have hg : ∀ (f : Unit → Sem Value), ((eqGuard op xt x y (.string s) (.string u)) >>= f).run P w = (f ()).run P w := by
   intro f; unfold eqGuard; by_cases h1 : (op matches .eql | .neq) = true
   ·simp [h1]
   ·simp [h1]
  rw [hg]; cases op <;> simp only [Go.binOp] at h ⊢
  all_goals first
   | (split at h
      ·cases h
      ·rename_i hz; simp only [Op.stringOp, if_neg hz, Option.some.injEq] at h ⊢; subst h; rfl)
   | (simp only [Op.stringOp, Option.some.injEq] at h ⊢; subst h; rfl)
   | cases h
 ·cases h
theorem VR.bool_inv {b : Bool} {v' : Value} (h : VR β (.bool b) v') : v' = .bool b := by cases h; rfl
theorem B2v {op : BinOp} {a b : Value} (h : J9 op a b = some v) : VR β v v := by
 unfold J9 at h
 repeat' split at h
 all_goals first
  | (cases h; done)
  | (cases h; first | exact .int _ _ | exact .bool _ | exact .string _)
theorem C2q {neg : Bool} {a b : Value} (h : A4c neg a b = some v) : VR β v v := by
 unfold A4c at h; split at h
 ·cases h; exact .bool _
 ·cases h
theorem C3 {t : TypeId} {d : TypeDesc} (h : P.underlying t = some d) : (underlying t).run P w = .ok d w := by
 simp [underlying, program, Sem.run, h]
theorem A34 {t : TypeId} {i : TypeInfo} (h : P.info? t = some i) : (typeInfo t).run P w = .ok i w := by
 simp [typeInfo, program, Sem.run, h]
theorem I4 {t : TypeId} {i : TypeInfo} (h : P.info? t = some i) : (sizeOf t).run P w = .ok i.size w := by
 simp [sizeOf, A34 h]
theorem Q6 {t : TypeId} {i : TypeInfo} {z : Value} (h : P.info? t = some i) (hz : i.zero = some z) : (zeroValue t).run P w = .ok z w := by
 simp [zeroValue, A34 h, hz]
theorem A0o {t : TypeId} {g : Bool} (h : d7 P t = some g) : (isAgg t).run P w = .ok g w := by
 unfold d7 at h; split at h
 ·rename_i hu; cases h; simp [isAgg, C3 hu]
 ·rename_i hu; cases h; simp [isAgg, C3 hu]
 ·rename_i d h1 h2 hu; cases h; simp only [isAgg, Sem.run_bind, C3 hu, Result.andThen_ok]; cases d <;> first | rfl | exact absurd hu (h1 _) | exact absurd hu (h2 _ _)
 ·cases h
theorem C5m {d : Nat} {xt : TypeId} {m n : Bool} (hu : P.underlying xt = some .bool) : (Op.equalIn (d + 1) xt (.bool m) (.bool n)).run P w = .ok (m == n) w := by
 simp only [Op.equalIn, Sem.run_bind, C3 hu, Result.andThen_ok]; rfl
def D2h (P : Program) (xt : TypeId) : NK → Value → Prop
 | .slice, b => b = .slice none 0 0 ∧ ∃ el, P.underlying xt = some (.slice el)
 | .pointer, b => b = .pointer none ∧ ∃ el, P.underlying xt = some (.pointer el)
 | .func, b => b = .nilFunc ∧ ∃ p r q, P.underlying xt = some (.func p r q)
 | .iface, b => b = .nilIface ∧ ∃ ms, P.underlying xt = some (.interface ms)
theorem C8a {d : Nat} {xt : TypeId} {a b : Value} {n : Bool} {k : NK} (hn : K9 k a = some n) (hb : D2h P xt k b) :
 (Op.equalIn (d + 1) xt a b).run P w = .ok n w := by
 unfold K9 at hn; split at hn <;> first | (cases hn; done) | skip
 all_goals
  first
   | (obtain ⟨rfl, _, _, _, hu⟩ := hb)
   | (obtain ⟨rfl, el, hu⟩ := hb)
  cases hn; simp only [Op.equalIn, Sem.run_bind, C3 hu, Result.andThen_ok]; rfl
theorem C0p {xt : TypeId} {a b : Value} {n : Bool} (h : (Op.equalIn (9999 + 1) xt a b).run P w = .ok n w) : (Op.equal xt a b).run P w = .ok n w := h
theorem C7h {op : BinOp} (hop : op = .eql ∨ op = .neq) {xt : TypeId} {x y : Operand} {a b a' b' : Value} (hu : P.underlying xt = some .bool) (h : A4c (op == .neq) a b = some v) (ha : VR β a a') (hb : VR β b b')
 : (do eqGuard op xt x y a' b'; Go.binOp op xt a' b' : Sem Value).run P w = .ok v w := by
 unfold A4c at h; split at h
 ·rename_i m n; cases ha; cases hb; cases h; have h1 := C0p (C5m (P := P) (w := w) (d := 9999) (m := m) (n := n) hu); rcases hop with rfl | rfl
  ·simp only [eqGuard, Go.binOp, Sem.run_bind]; simp [h1]
  ·simp only [eqGuard, Go.binOp, Sem.run_bind]; simp [h1]
 ·cases h
theorem C2m : ∀ {l l' : List Value} {r : Bool}, eqL l l' = some r → ∀ {m m' : List Value}, VRs β l m → VRs β l' m' → m = l ∧ m' = l'
 | [], [], r, h, m, m', h1, h2 => by
   have e1 := h1.1; have e2 := h2.1; simp at e1 e2; exact ⟨List.length_eq_zero_iff.1 e1.symm, List.length_eq_zero_iff.1 e2.symm⟩
 | .int k a :: l, .int k' b :: l', r, h, [], m', h1, h2 => by have := h1.1; simp at this
 | .int k a :: l, .int k' b :: l', r, h, m, [], h1, h2 => by have := h2.1; simp at this
 | .int k a :: l, .int k' b :: l', r, h, x :: m, y :: m', h1, h2 => by
   simp only [eqL] at h; split at h
   ·obtain ⟨q, hq, _⟩ := Option.map_eq_some_iff.1 h; obtain ⟨a1, a2⟩ := h1.of_cons; obtain ⟨b1, b2⟩ := h2.of_cons; obtain ⟨e1, e2⟩ := C2m hq a2 b2; cases a1; cases b1; exact ⟨by rw [e1], by rw [e2]⟩
   ·cases h
theorem C4f {xs : Array Value} {ft : TypeId} {k : Nat} {kk : IntKind} {v : Value} (hu : P.underlying ft = some (.int kk)) (hv : xs[k]? = some v) : (part ft xs k).run P w = .ok v w := by
 have hg : d7 P ft = some false := by unfold d7; rw [hu]
 simp only [part, Sem.run_bind, A0o hg, Result.andThen_ok, Bool.false_eq_true, if_false, hv]; rfl
theorem B3w {xs ys : Array Value} {d : Nat} : ∀ {fs : List Field} {k : Nat} {l l' : List Value} {r : Bool}, A3e P fs k = true → fs.length = l.length → xs.toList.drop k = l → ys.toList.drop k = l' → eqL l l' = some r →
 (Op.eqFields (d + 1) xs ys fs).run P w = .ok r w
 | [], k, l, l', r, hf, hn, hx, hy, h => by
   have : l = [] := List.length_eq_zero_iff.1 hn.symm; subst this; cases l' with
   | nil => cases h; rfl
   | cons y l' => cases h
 | f :: fs, k, l, l', r, hf, hn, hx, hy, h => by
   simp only [A3e, Bool.and_eq_true, bne_iff_ne, ne_eq] at hf; obtain ⟨⟨⟨f1, f2⟩, f3⟩, f4⟩ := hf; obtain ⟨kk, hu⟩ : ∃ kk, P.underlying f.type = some (.int kk) := by
    split at f3
    ·rename_i kk hk; exact ⟨kk, hk⟩
    ·cases f3
   have hoff := Nat.eq_of_beq_eq_true f2
   match l, l', h with
   | .int k1 a :: l, .int k2 b :: l', h =>
     simp only [eqL] at h; split at h
     ·rename_i hk; subst hk; obtain ⟨q, hq, rfl⟩ := Option.map_eq_some_iff.1 h; have gx : xs[k]? = some (.int k1 a) := by
       have := congrArg (·[0]?) hx; simpa using this
      have gy : ys[k]? = some (.int k1 b) := by
       have := congrArg (·[0]?) hy; simpa using this
      have hx' : xs.toList.drop (k + 1) = l := by rw [← List.drop_drop, hx]; rfl
      have hy' : ys.toList.drop (k + 1) = l' := by rw [← List.drop_drop, hy]; rfl
      have ih := B3w (d := d) f4 (by simpa using hn) hx' hy' hq; simp only [Op.eqFields, ne_eq, f1, not_false_eq_true, if_true, Sem.run_bind, hoff, C4f hu gx, C4f hu gy, Result.andThen_ok, run_equalIn_int w d f.type k1 kk a b hu]; cases hab : (a == b)
      ·simp
      ·simp [ih]
     ·cases h
theorem D3x {op : BinOp} (hop : op = .eql ∨ op = .neq) {xt : TypeId} {fs : Array Field} {x y : Operand} {a b a' b' : Value} (hu : P.underlying xt = some (.struct fs)) (hf : (A3e P fs.toList 0 && !P.stoodInHeld xt && !P.eqGuardType P.depth xt) = true)
 (h : C5s (op == .neq) fs.size a b = some v) (ha : VR β a a') (hb : VR β b b') : (do eqGuard op xt x y a' b'; Go.binOp op xt a' b' : Sem Value).run P w = .ok v w := by
 simp only [Bool.and_eq_true, Bool.not_eq_true'] at hf; obtain ⟨⟨f1, f2⟩, f3⟩ := hf; unfold C5s at h; split at h
 ·rename_i xs ys; split at h
  ·rename_i hsz; obtain ⟨r, hr, rfl⟩ := Option.map_eq_some_iff.1 h; cases ha with
   | agg h1 h2 h3 =>
     cases hb with
     | agg g1 g2 g3 =>
       rename_i cs' ds'; obtain ⟨e1, e2⟩ := C2m (β := β) hr (m := cs'.toList) (m' := ds'.toList) ⟨by simpa using h1, fun i v v' q1 q2 => h2 i v v' (by simpa using q1) (by simpa using q2)⟩ ⟨by simpa using g1, fun i v v' q1 q2 => g2 i v v' (by simpa using q1) (by simpa using q2)⟩; have e1' : cs' = xs := Array.toList_inj.1 e1; have e2' : ds' = ys := Array.toList_inj.1 e2; subst e1' e2'; have hfo : P.fieldsOf xt = fs := by unfold Program.fieldsOf; rw [hu]
       have heq : (Op.equalIn 10000 xt (.agg cs') (.agg ds')).run P w = .ok r w := by
        rw [run_equalIn_agg w 9999 xt cs' ds' (by rw [hfo]; exact hu) f2, hfo]; exact B3w (d := 9998) f1 (by simpa using hsz.symm) (List.drop_zero ..) (List.drop_zero ..) hr
       rw [Sem.run_bind, run_eqGuard_agg w op xt x y cs' ds' f3]; rcases hop with rfl | rfl
       ·simp only [Result.andThen_ok, run_eql_struct, heq]; rfl
       ·simp only [Result.andThen_ok, run_neq_struct, heq]; rfl
  ·cases h
 ·cases h
theorem C9n {neg : Bool} {n : Nat} {a b : Value} (h : C5s neg n a b = some v) : VR β v v := by
 unfold C5s at h; split at h
 ·split at h
  ·obtain ⟨r, _, rfl⟩ := Option.map_eq_some_iff.1 h; exact .bool _
  ·cases h
 ·cases h
theorem VR.isNil {a a' : Value} {k : NK} (h : VR β a a') {n : Bool} (hn : K9 k a = some n) : K9 k a' = some n := by
 unfold K9 at hn; split at hn <;> first | (cases hn; done) | skip
 all_goals (cases h <;> exact hn)
theorem C24 {t : TypeId} {b o : Nat} {a' : Value} (hg : d7 P t = some false) (hw : WR lim β H w) (hc : H.cell b o = some v) (ha : VR β (.pointer (some ⟨b, o, none⟩)) a') :
 ∃ v', (Instr.loadAt t a').run P w = .ok v' w ∧ VR β v v' := by
 cases ha with
 | ptr hβ =>
   obtain ⟨v', h1, h2⟩ := hw.cell hc hβ; exact ⟨v', by simp [Instr.loadAt, Instr.sureAddr, loadVar, A0o hg, h1], h2.1⟩
theorem WR.cells {b o n : Nat} {l : List Value} (hw : WR lim β H w) (hc : P6 H b o n = some l) {r s z : Nat} (hβ : β b = some (r, s, z)) :
 ∃ l' : List Value, VRs β l l' ∧ (∀ (i : Nat) (v' : Value), l'[i]? = some v' → v'.oneCell' = true) ∧ l.length = n ∧ ∀ (j : Nat) (u : Value), l'[j]? = some u → w.cell? ((⟨r, s + o, none⟩ : Addr).add j) = some u := by
 unfold P6 at hc; cases hb : H.blk b with
 | none => rw [hb] at hc; cases hc
 | some cs =>
   rw [hb] at hc; simp only [Option.bind_some] at hc; split at hc
   ·rename_i hle; cases hc; obtain ⟨r0, s0, z0, c, e, fr, h1, h2, hz, h3, h4, h5⟩ := hw.live b cs hb; rw [hβ] at h1; cases h1; refine ⟨(c.toList.drop (s + o)).take n, ⟨?_, ?_⟩, ?_, ?_, ?_⟩
    ·simp; omega
    ·intro i v v' g1 g2; rw [List.getElem?_take] at g1 g2; split at g1
     ·rw [List.getElem?_drop] at g1; rw [if_pos ‹_›, List.getElem?_drop] at g2; refine (h5 _ _ _ g1 ?_).1; rw [← Nat.add_assoc]; simpa using g2
     ·cases g1
    ·intro i v' g2; rw [List.getElem?_take] at g2; split at g2
     ·rw [List.getElem?_drop] at g2; have hi : o + i < cs.length := by omega
      refine (h5 (o + i) cs[o + i] v' (by simp [hi]) ?_).2; rw [← Nat.add_assoc]; simpa using g2
     ·cases g2
    ·simp; omega
    ·intro j u g; rw [List.getElem?_take] at g; split at g
     ·rw [List.getElem?_drop] at g; have : (⟨r, s + o, none⟩ : Addr).add j = ⟨r, s + o + j, none⟩ := by
       unfold Addr.add; split
       ·rename_i hj; subst hj; rfl
       ·rfl
      rw [this]; simp only [World.cell?, h2]; simpa using g
     ·cases g
   ·cases hc
theorem VR.aggL {l l' : List Value} (h : VRs β l l') (ho : ∀ (i : Nat) (v' : Value), l'[i]? = some v' → v'.oneCell' = true) : VR β (.agg l.toArray) (.agg l'.toArray) :=
 .agg (by simpa using h.1) (by intro i v v' h1 h2; exact h.2 i v v' (by simpa using h1) (by simpa using h2)) (by intro i v' h1; exact ho i v' (by simpa using h1))
theorem C23 {t : TypeId} {i : TypeInfo} {b o : Nat} {l : List Value} {a' : Value} (hg : d7 P t = some true) (hi : P.info? t = some i) (hw : WR lim β H w) (hc : P6 H b o i.size = some l)
 (ha : VR β (.pointer (some ⟨b, o, none⟩)) a') : ∃ v', (Instr.loadAt t a').run P w = .ok v' w ∧ VR β (.agg l.toArray) v' := by
 cases ha with
 | ptr hβ =>
   obtain ⟨l', h1, ho, h2, h3⟩ := hw.cells hc hβ; refine ⟨.agg l'.toArray, ?_, VR.aggL h1 ho⟩; have hl : i.size = l'.length := by rw [← h1.1, h2]
   have := run_loadCells_list (P := P) (w := w) _ l' h3; simp [Instr.loadAt, Instr.sureAddr, loadVar, A0o hg, I4 hi, hl, this]
theorem C79 {op : BinOp} {xt : TypeId} {x : Operand} {a' b' : Value} (f : Unit → Sem Value) (ha : ∀ cs, a' ≠ .agg cs) :
 ((eqGuard op xt x (.const b') a' b') >>= f).run P w = (f ()).run P w := by
 unfold eqGuard; by_cases h1 : (op matches .eql | .neq) = true
 ·simp only [h1]; cases a' <;> cases b' <;> first
   | rfl
   | exact absurd rfl (ha _)
   | simp
 ·simp [h1]; exact fun h => absurd h h1
theorem B1t {op : BinOp} (hop : op = .eql ∨ op = .neq) {xt : TypeId} {x : Operand} {a a' b : Value} {n : Bool} {k : NK} (hn : K9 k a = some n) (ha : VR β a a')
 (hb : D2h P xt k b) : (do eqGuard op xt x (.const b) a' b; Go.binOp op xt a' b : Sem Value).run P w = .ok (.bool (if op == .neq then !n else n)) w := by
 have hn' := VR.isNil ha hn; have k2 := C0p (C8a (P := P) (w := w) (d := 9999) hn' hb); rw [C79 _ (by intro cs h; subst h; cases k <;> simp [K9] at hn')]; have hbin : (Go.binOp op xt a' b).run P w = (do let r ← Op.equal xt a' b; pure (.bool (if op == .neq then !r else r)) : Sem Value).run P w := by
  unfold K9 at hn'; split at hn' <;> first | (cases hn'; done) | skip
  all_goals
   obtain ⟨rfl, _⟩ := hb; rcases hop with rfl | rfl <;> rfl
 rw [hbin]; simp [k2]
theorem Addr.add_none (r o n : Nat) : (⟨r, o, none⟩ : Addr).add n = ⟨r, o + n, none⟩ := by
 unfold Addr.add; split
 ·rename_i h; subst h; rfl
 ·rfl
theorem VR.int_inv {k : IntKind} {n : Int} {v' : Value} (h : VR β (.int k n) v') : v' = .int k n := by cases h; rfl
theorem C0g {x x' : Value} {y m : Nat} {code : BoundsCode} (h : Q0 x y = some m) (hx : VR β x x') : (Instr.sliceBound x' y code).run P w = .ok m w ∧ m ≤ y := by
 unfold Q0 C5f at h; cases x <;> first | (cases h; done) | skip
 rename_i k n; cases hx; simp only [Option.bind_some] at h; split at h
 ·rename_i hc; cases h; exact ⟨by simp [Instr.sliceBound, asIntOf, hc], by omega⟩
 ·cases h
def A3q (β : Inj) : Option Value → Option Value → Prop
 | none, none => True
 | some a, some b => VR β a b
 | _, _ => False
theorem C73 {x : Value} {y y' m : Nat} (h : Q0 x y = some m) (hy : y ≤ y') : Q0 x y' = some m := by
 unfold Q0 C5f at *
 cases x <;> first | (cases h; done) | skip
 rename_i k n; simp only [Option.bind_some] at *
 split at h
 ·rename_i hc; cases h; rw [if_pos ⟨hc.1, by omega⟩]
 ·cases h
theorem A3m {isS : Bool} {len cap cap' : Nat} {lo hi mx lo' hi' mx' : Option Value} {l h m : Nat} (hb : Y7 len cap lo hi mx = some (l, h, m)) (hlen : len ≤ cap) (hcap : cap ≤ cap')
 (h1 : A3q β lo lo') (h2 : A3q β hi hi') (h3 : A3q β mx mx') :
 (Instr.sliceBounds isS len cap' lo' hi' mx').run P w = .ok (l, h, if mx.isSome then m else cap') w ∧ l ≤ h ∧ h ≤ m ∧ m ≤ cap ∧ (mx = none → m = cap) := by
 have B : ∀ {x x' : Value} {y y' k : Nat}, Q0 x y = some k → VR β x x' → y ≤ y' → (∀ code, (Instr.sliceBound x' y' code).run P w = .ok k w) ∧ k ≤ y :=
  fun hx hv hy => ⟨fun code => (C0g (P := P) (w := w) (code := code) (C73 hx hy) hv).1, (C0g (P := P) (w := w) (code := .index) hx hv).2⟩
 unfold Y7 at hb; cases mx with
 | some mv =>
   cases mx' with
   | none => exact h3.elim
   | some mv' =>
     simp only at hb; obtain ⟨m0, hm, hb⟩ := Option.bind_eq_some_iff.1 hb; cases hi with
     | none => cases hb
     | some hv =>
       cases hi' with
       | none => exact h2.elim
       | some hv' =>
         simp only at hb; obtain ⟨h0, hh, hb⟩ := Option.bind_eq_some_iff.1 hb; have e1 := B hm h3 hcap; have e2 := B hh h2 (Nat.le_refl _); cases lo with
         | none =>
           cases lo' with
           | some _ => exact h1.elim
           | none =>
             cases hb; exact ⟨by cases isS <;> simp [Instr.sliceBounds, e1.1, e2.1], Nat.zero_le _, e2.2, e1.2, by intro h; cases h⟩
         | some lv =>
           cases lo' with
           | none => exact h1.elim
           | some lv' =>
             simp only at hb; obtain ⟨l0, hl, hb⟩ := Option.bind_eq_some_iff.1 hb; cases hb; have e3 := B hl h1 (Nat.le_refl _); exact ⟨by cases isS <;> simp [Instr.sliceBounds, e1.1, e2.1, e3.1], e3.2, e2.2, e1.2, by intro h; cases h⟩
 | none =>
   cases mx' with
   | some _ => exact h3.elim
   | none =>
     simp only at hb; cases hi with
     | none =>
       cases hi' with
       | some _ => exact h2.elim
       | none =>
         simp only at hb; cases lo with
         | none =>
           cases lo' with
           | some _ => exact h1.elim
           | none => cases hb; exact ⟨by simp [Instr.sliceBounds], Nat.zero_le _, hlen, Nat.le_refl _, fun _ => rfl⟩
         | some lv =>
           cases lo' with
           | none => exact h1.elim
           | some lv' =>
             simp only at hb; obtain ⟨l0, hl, hb⟩ := Option.bind_eq_some_iff.1 hb; cases hb; have e3 := B hl h1 (Nat.le_refl _); exact ⟨by simp [Instr.sliceBounds, e3.1], e3.2, hlen, Nat.le_refl _, fun _ => rfl⟩
     | some hv =>
       cases hi' with
       | none => exact h2.elim
       | some hv' =>
         simp only at hb; obtain ⟨h0, hh, hb⟩ := Option.bind_eq_some_iff.1 hb; have e2 := B hh h2 hcap; cases lo with
         | none =>
           cases lo' with
           | some _ => exact h1.elim
           | none =>
             cases hb; exact ⟨by cases isS <;> simp [Instr.sliceBounds, e2.1], Nat.zero_le _, e2.2, Nat.le_refl _, fun _ => rfl⟩
         | some lv =>
           cases lo' with
           | none => exact h1.elim
           | some lv' =>
             simp only at hb; obtain ⟨l0, hl, hb⟩ := Option.bind_eq_some_iff.1 hb; cases hb; have e3 := B hl h1 (Nat.le_refl _); exact ⟨by cases isS <;> simp [Instr.sliceBounds, e2.1, e3.1], e3.2, e2.2, Nat.le_refl _, fun _ => rfl⟩
theorem C87 {lo hi mx lo' hi' mx' : Option Value} {a : Option Addr} {ln cp l h m sz : Nat} {x' : Value} {el : TypeId} {k : TypeInfo} {st : TypeId}
 (hu : P.underlying st = some (.slice el)) (hk : P.info? el = some k) (hb : Y7 ln cp lo hi mx = some (l, h, m)) (hx : VR β (.slice a ln cp) x')
 (hsp : ∀ ad, a = some ad → ad.spot = some 0 ∨ ad.spot = some k.size)
 (h1 : A3q β lo lo') (h2 : A3q β hi hi') (h3 : A3q β mx mx') :
 ∃ v', (Instr.sliceAt st x' lo' hi' mx').run P w = .ok v' w ∧
  VR β (match a with | none => .slice none 0 0 | some ⟨b, o, sp⟩ => .slice (some ⟨b, o + l * k.size, if mx.isSome then some 0 else sp⟩) (h - l) (m - l)) v' := by
 cases hx with
 | sliceNil =>
   obtain ⟨g1, g2, g3, g4, g5⟩ := A3m (P := P) (w := w) (isS := true) hb (Nat.le_refl _) (Nat.le_refl 0) h1 h2 h3; have hm : m = 0 := by omega
   have hh : h = 0 := by omega
   have hl : l = 0 := by omega
   subst hm; subst hh; subst hl; refine ⟨.slice none 0 0, ?_, .sliceNil⟩; simp [Instr.sliceAt, Instr.slice, C3 hu, I4 hk, g1]
 | @slice b o r s z kk _ _ cp' a' hβ hl hc ha =>
   have hkk : kk + 1 = k.size := by
    rcases hsp _ rfl with h | h
    ·simp at h
    ·simpa using h
   obtain ⟨g1, g2, g3, g4, g5⟩ := A3m (P := P) (w := w) (isS := true) hb hl hc h1 h2 h3; refine ⟨_, by simp only [Instr.sliceAt, Instr.slice, Sem.run_bind, C3 hu, I4 hk, g1, Result.andThen_ok, Sem.run_pure]; rfl, ?_⟩; cases mx with
   | some mv =>
     simp only [Option.isSome_some, if_true]; split
     ·rename_i hml; exact .sliceX hβ (by omega) (.inl (by omega))
     ·rename_i hml; rcases ha with ha | ⟨ha, ha2⟩
      ·omega
      ·subst ha; simp only [Option.map_some, Addr.add_none]; exact .sliceX hβ (by omega) (.inr (by rw [Nat.add_assoc]))
   | none =>
     have hm := g5 rfl; simp only [Option.isSome_none, Bool.false_eq_true, if_false]; split
     ·rename_i hml; exact .slice hβ (by omega) (by omega) (.inl (by omega))
     ·rename_i hml; rcases ha with ha | ⟨ha, ha2⟩
      ·omega
      ·subst ha; simp only [Option.map_some, Addr.add_none]; refine .slice hβ (by omega) (by omega) (.inr ⟨by rw [Nat.add_assoc], ?_⟩); rw [← hkk]; have hle : l ≤ cp' := by omega
       have e1 : l * (kk + 1) + (cp' - l) * (kk + 1) = cp' * (kk + 1) := by rw [← Nat.add_mul]; congr 1; omega
       omega
 | @sliceX b o r s z _ _ a' hβ hl ha =>
   obtain ⟨g1, g2, g3, g4, g5⟩ := A3m (P := P) (w := w) (isS := true) hb hl (Nat.le_refl _) h1 h2 h3; refine ⟨_, by simp only [Instr.sliceAt, Instr.slice, Sem.run_bind, C3 hu, I4 hk, g1, Result.andThen_ok, Sem.run_pure]; rfl, ?_⟩; have hm : (if mx.isSome = true then m else cp) = m := by
    split
    ·rfl
    ·rename_i hn; exact (g5 (by simpa using hn)).symm
   rw [hm]; have hsp : (if mx.isSome = true then some 0 else some 0 : Option Nat) = some 0 := by split <;> rfl
   simp only [hsp]; split
   ·rename_i hml; exact .sliceX hβ (by omega) (.inl (by omega))
   ·rename_i hml; rcases ha with ha | ha
    ·omega
    ·subst ha; simp only [Option.map_some, Addr.add_none]; exact .sliceX hβ (by omega) (.inr (by rw [Nat.add_assoc]))
theorem D17 {lo hi mx lo' hi' mx' : Option Value} {b o n l h m : Nat} {x' : Value} {el : TypeId} {k : TypeInfo} {st : TypeId}
 (hu : P.underlying st = some (.array n el)) (hk : P.info? el = some k) (hb : Y7 n n lo hi mx = some (l, h, m)) (hx : VR β (.pointer (some ⟨b, o, none⟩)) x')
 (h1 : A3q β lo lo') (h2 : A3q β hi hi') (h3 : A3q β mx mx') :
 ∃ v', (Instr.sliceAt st x' lo' hi' mx').run P w = .ok v' w ∧ VR β (.slice (some ⟨b, o + l * k.size, some 0⟩) (h - l) (m - l)) v' := by
 cases hx with
 | @ptr _ _ r s z hβ =>
   obtain ⟨g1, g2, g3, g4, g5⟩ := A3m (P := P) (w := w) (isS := false) hb (Nat.le_refl _) (Nat.le_refl _) h1 h2 h3; refine ⟨_, by simp only [Instr.sliceAt, Instr.sureAddr, Sem.run_bind, C3 hu, I4 hk, g1, Result.andThen_ok, Sem.run_pure]; rfl, ?_⟩; have hm : (if mx.isSome = true then m else n) = m := by
    split
    ·rfl
    ·rename_i hn; exact (g5 (by simpa using hn)).symm
   rw [hm]; split
   ·rename_i hml; exact .sliceX hβ (by omega) (.inl (by omega))
   ·rw [Addr.add_none]; exact .sliceX hβ (by omega) (.inr (by rw [Nat.add_assoc]))
theorem D27 {b o n0 cp : Nat} {sp : Option Nat} {n : Int} {kk : IntKind} {x' i' : Value} {el : TypeId} {k : TypeInfo} {st : TypeId}
 (hu : P.underlying st = some (.slice el)) (hk : P.info? el = some k) (hx : VR β (.slice (some ⟨b, o, sp⟩) n0 cp) x') (hi : VR β (.int kk n) i') (hn : 0 ≤ n ∧ n < n0) :
 ∃ v', (Instr.indexAt st x' i').run P w = .ok v' w ∧ VR β (.pointer (some ⟨b, o + n.toNat * k.size, none⟩)) v' := by
 cases hi; have key : ∀ (a' : Addr) (cp' : Nat), (Instr.indexAt st (.slice (some a') n0 cp') (.int kk n)).run P w = .ok (.pointer (some (a'.add (n.toNat * k.size)))) w := by
  intro a' cp'; simp [Instr.indexAt, asIntOf, C3 hu, I4 hk, hn]
 cases hx with
 | slice hβ hl hc ha =>
   refine ⟨_, key _ _, ?_⟩; rcases ha with ha | ⟨ha, _⟩
   ·omega
   ·subst ha; rw [Addr.add_none, Nat.add_assoc]; exact .ptr hβ
 | sliceX hβ hl ha =>
   refine ⟨_, key _ _, ?_⟩; rcases ha with ha | ha
   ·omega
   ·subst ha; rw [Addr.add_none, Nat.add_assoc]; exact .ptr hβ
theorem D3v {b o n0 : Nat} {n : Int} {kk : IntKind} {x' i' : Value} {el : TypeId} {k : TypeInfo} {st : TypeId}
 (hu : P.underlying st = some (.array n0 el)) (hk : P.info? el = some k) (hx : VR β (.pointer (some ⟨b, o, none⟩)) x') (hi : VR β (.int kk n) i') (hn : 0 ≤ n ∧ n < n0) :
 ∃ v', (Instr.indexAt st x' i').run P w = .ok v' w ∧ VR β (.pointer (some ⟨b, o + n.toNat * k.size, none⟩)) v' := by
 cases hi; cases hx with
 | ptr hβ =>
   refine ⟨_, by simp [Instr.indexAt, asIntOf, Instr.sureAddr, C3 hu, I4 hk, hn]; rfl, ?_⟩; rw [Addr.add_none, Nat.add_assoc]; exact .ptr hβ
theorem D26 {b o : Nat} {x' : Value} {fs : Array Field} {f : Nat} {fd : Field} {k : TypeInfo} {st : TypeId}
 (hu : P.underlying st = some (.struct fs)) (hf : fs[f]? = some fd) (hk : P.info? fd.type = some k) (hz : k.size ≠ 0) (hx : VR β (.pointer (some ⟨b, o, none⟩)) x') :
 ∃ v', (Instr.fieldAt st x' f).run P w = .ok v' w ∧ VR β (.pointer (some ⟨b, o + fd.offset, none⟩)) v' := by
 cases hx with
 | ptr hβ =>
   refine ⟨_, by simp [Instr.fieldAt, Instr.sureAddr, fieldPlace, C3 hu, hf, I4 hk, hz]; rfl, ?_⟩; rw [Addr.add_none, Nat.add_assoc]; exact .ptr hβ
theorem VR.agg_inv {cs : Array Value} {x' : Value} (h : VR β (.agg cs) x') : ∃ cs' : Array Value, x' = .agg cs' ∧ cs.size = cs'.size ∧
 (∀ (i : Nat) (v v' : Value), cs[i]? = some v → cs'[i]? = some v' → VR β v v') ∧ ∀ (i : Nat) (v' : Value), cs'[i]? = some v' → v'.oneCell' = true := by
 cases h with
 | agg hs h ho => exact ⟨_, rfl, hs, h, ho⟩
theorem D1r {cs : Array Value} {x' : Value} {fs : Array Field} {f : Nat} {fd : Field} {st : TypeId}
 (hu : P.underlying st = some (.struct fs)) (hf : fs[f]? = some fd) (hg : d7 P fd.type = some false) (hx : VR β (.agg cs) x') (hv : cs[fd.offset]? = some v) :
 ∃ v', (Instr.field st x' f).run P w = .ok v' w ∧ VR β v v' := by
 obtain ⟨cs', rfl, hs, h, ho⟩ := hx.agg_inv; have hlt : fd.offset < cs'.size := by rw [← hs]; exact (Array.getElem?_eq_some_iff.1 hv).1
 refine ⟨cs'[fd.offset], ?_, h _ _ _ hv (by simp [hlt])⟩; simp [Instr.field, C3 hu, hf, asAgg, part, A0o hg, hlt]
theorem D1f {cs : Array Value} {x' : Value} {fs : Array Field} {f : Nat} {fd : Field} {k : TypeInfo} {st : TypeId}
 (hu : P.underlying st = some (.struct fs)) (hf : fs[f]? = some fd) (hg : d7 P fd.type = some true) (hk : P.info? fd.type = some k) (hx : VR β (.agg cs) x') :
 ∃ v', (Instr.field st x' f).run P w = .ok v' w ∧ VR β (.agg (cs.extract fd.offset (fd.offset + k.size))) v' := by
 obtain ⟨cs', rfl, hs, h, ho⟩ := hx.agg_inv; refine ⟨.agg (cs'.extract fd.offset (fd.offset + k.size)), ?_, .agg (by simp [hs]) ?_ ?_⟩
 ·simp [Instr.field, C3 hu, hf, asAgg, part, A0o hg, I4 hk]
 ·intro i v v' h1 h2; rw [Array.getElem?_extract] at h1 h2; split at h1
  ·rw [if_pos (by rw [← hs]; assumption)] at h2; exact h _ _ _ h1 h2
  ·cases h1
 ·intro i v' h1; rw [Array.getElem?_extract] at h1; split at h1
  ·exact ho _ _ h1
  ·cases h1
theorem D1j {cs : Array Value} {x' i' : Value} {n0 : Nat} {n : Int} {kk : IntKind} {el : TypeId} {k : TypeInfo} {st : TypeId}
 (hu : P.underlying st = some (.array n0 el)) (hg : d7 P el = some false) (hk : P.info? el = some k) (hx : VR β (.agg cs) x') (hi : VR β (.int kk n) i') (hn : 0 ≤ n ∧ n < n0)
 (hv : cs[n.toNat * k.size]? = some v) : ∃ v', (Instr.index st x' i').run P w = .ok v' w ∧ VR β v v' := by
 obtain ⟨cs', rfl, hs, h, ho⟩ := hx.agg_inv; cases hi; have hlt : n.toNat * k.size < cs'.size := by rw [← hs]; exact (Array.getElem?_eq_some_iff.1 hv).1
 refine ⟨cs'[n.toNat * k.size], ?_, h _ _ _ hv (by simp [hlt])⟩; simp [Instr.index, asIntOf, C3 hu, hn, part, A0o hg, I4 hk, hlt]
theorem D3z {s : ByteArray} {x' i' : Value} {n : Int} {kk : IntKind} {st : TypeId} {b : UInt8}
 (hu : P.underlying st = some .string) (hx : VR β (.string s) x') (hi : VR β (.int kk n) i') (hn : 0 ≤ n) (hv : s[n.toNat]? = some b) :
 (Instr.index st x' i').run P w = .ok (.int .u8 b.toNat) w := by
 cases hi; cases hx; simp [Instr.index, asIntOf, C3 hu, hn, hv]
theorem D20 {cs : Array Value} {x' : Value} {i : Nat} (hx : VR β (.tuple cs) x') (hv : cs[i]? = some v) :
 ∃ v', (Instr.extract x' i).run P w = .ok v' w ∧ VR β v v' := by
 cases hx with
 | @tuple _ cs' hs h =>
   have hlt : i < cs'.size := by rw [← hs]; exact (Array.getElem?_eq_some_iff.1 hv).1
   exact ⟨cs'[i], by simp [Instr.extract, hlt], h _ _ _ hv (by simp [hlt])⟩
theorem D1b {lo hi lo' hi' : Option Value} {s : ByteArray} {l h m : Nat} {x' : Value} {st : TypeId}
 (hu : P.underlying st = some .string) (hb : Y7 s.size s.size lo hi none = some (l, h, m)) (hx : VR β (.string s) x') (h1 : A3q β lo lo') (h2 : A3q β hi hi') :
 (Instr.sliceAt st x' lo' hi' none).run P w = .ok (.string (s.extract l h)) w := by
 cases hx; obtain ⟨g1, _⟩ := A3m (P := P) (w := w) (isS := false) hb (Nat.le_refl _) (Nat.le_refl _) h1 h2 (show A3q β none none from trivial); simp [Instr.sliceAt, Instr.slice, C3 hu, g1]
theorem A2g {x : Option Operand} {y : Option Opd} (h : B8u ren x = some y) (hr : ∀ z, x = some z → ∀ a, ren z = some a → VR β (a.ev e t) (ρ z)) :
 A3q β (y.map (·.ev e t)) (x.map ρ) := by
 cases x with
 | none => cases h; trivial
 | some z =>
   simp only [B8u] at h; cases hz : ren z with
   | none => rw [hz] at h; cases h
   | some a =>
     rw [hz] at h; cases h; exact hr z rfl a hz
theorem B6b : ∀ {xs : List Operand} {l : List Opd}, C2v ren xs = some l → (∀ z ∈ xs, ∀ a, ren z = some a → VR β (a.ev e t) (ρ z)) →
 VRs β (l.map (·.ev e t)) (xs.map ρ)
 | [], l, h, _ => by cases h; exact VRs.nil β
 | x :: xs, l, h, hr => by
   simp only [C2v] at h; obtain ⟨a, ha, h⟩ := Option.bind_eq_some_iff.1 h; obtain ⟨as, hs, h⟩ := Option.map_eq_some_iff.1 h; subst h; exact VRs.cons (hr x (by simp) a ha) (B6b hs fun z hz => hr z (by simp [hz]))
def Z0 (l : List Value) : Prop := ∀ (i : Nat) (v : Value), l[i]? = some v → v.oneCell' = true
theorem Z0.cons {x : Value} {l : List Value} (hx : x.oneCell' = true) (h : Z0 l) : Z0 (x :: l) := by
 intro i v hv; cases i with
 | zero => simp at hv; subst hv; exact hx
 | succ i => exact h i v (by simpa using hv)
theorem Z0.append {l m : List Value} (h : Z0 l) (k : Z0 m) : Z0 (l ++ m) := by
 intro i v hv; by_cases hi : i < l.length
 ·rw [List.getElem?_append_left hi] at hv; exact h i v hv
 ·rw [List.getElem?_append_right (by omega)] at hv; exact k _ v hv
theorem Z0.take {l : List Value} (h : Z0 l) (n : Nat) : Z0 (l.take n) := by
 intro i v hv; rw [List.getElem?_take] at hv; split at hv
 ·exact h i v hv
 ·cases hv
theorem Z0.drop {l : List Value} (h : Z0 l) (n : Nat) : Z0 (l.drop n) := by
 intro i v hv; rw [List.getElem?_drop] at hv; exact h _ v hv
theorem VRs.take {l l' : List Value} (h : VRs β l l') (n : Nat) : VRs β (l.take n) (l'.take n) := by
 refine ⟨by simp [h.1], fun i v v' h1 h2 => ?_⟩; rw [List.getElem?_take] at h1 h2; split at h1
 ·rw [if_pos ‹_›] at h2; exact h.2 i v v' h1 h2
 ·cases h1
theorem VRs.drop {l l' : List Value} (h : VRs β l l') (n : Nat) : VRs β (l.drop n) (l'.drop n) := by
 refine ⟨by simp [h.1], fun i v v' h1 h2 => ?_⟩; rw [List.getElem?_drop] at h1 h2; exact h.2 _ v v' h1 h2
theorem B2f {v' : Value} {l : List Value} (h : C2 v = some l) (hv : VR β v v') : VRs β l v'.cells.toList ∧ Z0 v'.cells.toList := by
 have one : ∀ {x x' : Value}, VR β x x' → x'.oneCell' = true → VRs β [x] [x'] ∧ Z0 [x'] := fun a b => ⟨VRs.cons a (VRs.nil β), Z0.cons b (by intro i v h; simp at h)⟩
 cases hv with
 | junk => cases h
 | tuple => cases h
 | agg hs h1 ho =>
   cases h; exact ⟨⟨by simpa [Value.cells] using hs, fun i a a' g1 g2 => h1 i a a' (by simpa using g1) (by simpa [Value.cells] using g2)⟩, fun i a g => ho i a (by simpa [Value.cells] using g)⟩
 | bool b => cases h; exact one (.bool b) rfl
 | int k n => cases h; exact one (.int k n) rfl
 | float k n => cases h; exact one (.float k n) rfl
 | string s => cases h; exact one (.string s) rfl
 | ptrNil => cases h; exact one .ptrNil rfl
 | ptr hb => cases h; exact one (.ptr hb) rfl
 | sliceNil => cases h; exact one .sliceNil rfl
 | slice a b c d => cases h; exact one (.slice a b c d) rfl
 | sliceX a b c => cases h; exact one (.sliceX a b c) rfl
 | func a b => cases h; exact one (.func a b) rfl
 | nilFunc => cases h; exact one .nilFunc rfl
 | nilIface => cases h; exact one .nilIface rfl
 | iface a => cases h; exact one (.iface a) rfl
theorem C0j (off : Nat) : ∀ (l : List Value) (k : Nat) (cs : Array Value), off + k + l.length ≤ cs.size →
 ((l.zipIdx k).foldl (fun cs (p : Value × Nat) => cs.setIfInBounds (off + p.2) p.1) cs).toList = cs.toList.take (off + k) ++ l ++ cs.toList.drop (off + k + l.length)
 | [], k, cs, h => by simp
 | x :: l, k, cs, h => by
   have h' : off + (k + 1) + l.length ≤ (cs.setIfInBounds (off + k) x).size := by simp at h ⊢; omega
   have ih := C0j off l (k + 1) (cs.setIfInBounds (off + k) x) h'; simp only [List.zipIdx_cons, List.foldl_cons]; rw [ih]; simp at h; have hlt : off + k < cs.toList.length := by simp; omega
   simp only [Array.toList_setIfInBounds, List.length_cons]; rw [List.drop_set_of_lt (by omega)]; rw [show off + (k + 1) = off + k + 1 from by omega, List.take_succ_eq_append_getElem (by simpa using hlt)]; rw [List.take_set_of_le (Nat.le_refl _)]; simp; rw [show off + k + 1 + l.length = off + k + (l.length + 1) from by omega]
def C1o (β : Inj) (place : Nat → Option (Nat × Nat)) : List (Nat × Nat × Value) → List (Nat × Value) → Prop
 | [], [] => True
 | (off, n, v) :: l, (i, x) :: l' => place i = some (off, n) ∧ VR β v x ∧ C1o β place l l'
 | _, _ => False
theorem B05 {place : Nat → Option (Nat × Nat)} : ∀ (ps : List (Nat × Nat × Value)) (ps' : List (Nat × Value)) (cells : List Value) (cells' : Array Value) (r : List Value),
 C9 cells ps = some r → C1o β place ps ps' → VRs β cells cells'.toList → Z0 cells'.toList →
 ∃ r', Instr.fill place cells' ps' = some r' ∧ VRs β r r'.toList ∧ Z0 r'.toList
 | [], ps', cells, cells', r, h, hp, hc, ho => by
   cases ps' with
   | nil => cases h; exact ⟨cells', rfl, hc, ho⟩
   | cons => exact hp.elim
 | (off, n, v) :: ps, [], _, _, _, _, hp, _, _ => hp.elim
 | (off, n, v) :: ps, (i, x) :: ps', cells, cells', r, h, hp, hc, ho => by
   obtain ⟨hpl, hv, hp⟩ := hp; simp only [C9] at h; obtain ⟨l, hl, h⟩ := Option.bind_eq_some_iff.1 h; obtain ⟨g1, g2⟩ := B2f hl hv; split at h
   ·rename_i hn; have hsz : x.cells.size = n := by rw [← hn.1, g1.1]; simp
    have hcs : cells'.size = cells.length := by rw [hc.1]; simp
    have hf := C0j off x.cells.toList 0 cells' (by simp; omega); have e0 : (x.cells.zipIdx.foldl (fun cs (p : Value × Nat) => cs.setIfInBounds (off + p.2) p.1) cells') = (x.cells.toList.zipIdx 0).foldl (fun cs (p : Value × Nat) => cs.setIfInBounds (off + p.2) p.1) cells' := by
     rw [← Array.foldl_toList]; simp
    obtain ⟨r', k1, k2, k3⟩ := B05 ps ps' _ (x.cells.zipIdx.foldl (fun cs (p : Value × Nat) => cs.setIfInBounds (off + p.2) p.1) cells') r h hp
     (by
      rw [e0, hf]; simp only [Nat.add_zero]; have : x.cells.toList.length = n := by simpa using hsz
      rw [this]; exact ((hc.take off).append g1).append (hc.drop (off + n)))
     (by
      rw [e0, hf]; exact ((ho.take _).append g2).append (ho.drop _))
    refine ⟨r', ?_, k2, k3⟩; simp only [Instr.fill, hpl]; rw [if_neg (by simp [hsz]; omega)]; exact k1
   ·cases h
theorem B11 {pl : Nat → Option (Nat × Nat)} {st : TypeId} (hpl : ∀ i, pl i = A6w P st i) : ∀ {xs : List (Nat × Operand)} {l : List (Nat × Nat × Opd)}, B77 P st ren xs = some l →
 (∀ z ∈ xs, ∀ a, ren z.2 = some a → VR β (a.ev e t) (ρ z.2)) → C1o β pl (l.map fun (o, n, x) => (o, n, x.ev e t)) (xs.map fun (i, x) => (i, ρ x))
 | [], l, h, _ => by cases h; trivial
 | (i, x) :: xs, l, h, hr => by
   simp only [B77] at h; obtain ⟨a, ha, h⟩ := Option.bind_eq_some_iff.1 h; obtain ⟨q, hq, h⟩ := Option.bind_eq_some_iff.1 h; obtain ⟨as, hs, h⟩ := Option.map_eq_some_iff.1 h; subst h; exact ⟨by rw [hpl]; exact hq, hr (i, x) (by simp) a ha, B11 hpl hs fun z hz => hr z (by simp [hz])⟩
theorem A9k {z : Value} (hc : (z.cells.all M0) = true) : VRs β z.cells.toList z.cells.toList ∧ Z0 z.cells.toList := by
 have h : ∀ x ∈ z.cells.toList, M0 x = true := by
  intro x hx; exact (Array.all_eq_true_iff_forall_mem.1 hc) x (by simpa using hx)
 refine ⟨⟨rfl, fun i v v' h1 h2 => ?_⟩, fun i v h1 => ?_⟩
 ·rw [h1] at h2; cases h2; exact VR.closed (h v (List.mem_of_getElem? h1))
 ·have := h v (List.mem_of_getElem? h1); cases v <;> first | rfl | (simp [M0] at this)
theorem B4o (fs : Array Field) (h : ∀ f ∈ fs, (P.info? f.type).isSome = true) :
 (fs.mapM fun f => do pure (f.offset, ← sizeOf f.type) : Sem (Array (Nat × Nat))).run P w = .ok (fs.map fun f => (f.offset, ((P.info? f.type).map (·.size)).getD 0)) w := by
 rw [Array.mapM_eq_mapM_toList]; have key : ∀ (l : List Field), (∀ f ∈ l, (P.info? f.type).isSome = true) →
  (l.mapM fun f => do pure (f.offset, ← sizeOf f.type) : Sem (List (Nat × Nat))).run P w = .ok (l.map fun f => (f.offset, ((P.info? f.type).map (·.size)).getD 0)) w := by
  intro l
  induction l with
  | nil => intro _; simp
  | cons x l ih =>
    intro hx; have hx0 := hx x (by simp); obtain ⟨k, hk⟩ := Option.isSome_iff_exists.1 hx0; have ih' := ih fun f hf => hx f (by simp [hf])
    simp only [List.mapM_cons, Sem.run_bind, I4 hk, Result.andThen_ok, Sem.run_pure, ih']; simp [hk]
 have := key fs.toList (by simpa using h); simp only [Sem.run_map, this, Result.andThen_ok]
 congr 1
 apply Array.ext'; simp
theorem D2r {st : TypeId} {k : TypeInfo} {z : Value} {l : List (Nat × Nat × Opd)} {parts : Array (Nat × Operand)} {r : List Value} (hk : P.info? st = some k) (hz : k.zero = some z)
 (hc : (z.cells.all M0) = true) (hg : C01 P st = true)
 (hp : B77 P st ren parts.toList = some l) (hr : ∀ x ∈ parts, ∀ a, ren x.2 = some a → VR β (a.ev e t) (ρ x.2))
 (hv : C9 z.cells.toList (l.map fun (o, n, x) => (o, n, x.ev e t)) = some r) :
 ∃ v', (Instr.build st (parts.map fun (i, x) => (i, ρ x))).run P w = .ok v' w ∧ VR β (.agg r.toArray) v' := by
 obtain ⟨c1, c2⟩ := A9k (β := β) hc; unfold C01 at hg; split at hg
 ·rename_i fs hu; have hf : ∀ f ∈ fs, (P.info? f.type).isSome = true := by
   intro f hf; exact List.all_eq_true.1 hg f (by simpa using hf)
  have hm := B4o (P := P) (w := w) fs hf; have hpl : ∀ i, (fs.map fun f => (f.offset, ((P.info? f.type).map (·.size)).getD 0))[i]? = A6w P st i := by
   intro i; simp only [A6w, hu, Array.getElem?_map]; cases hi : fs[i]? with
   | none => rfl
   | some f =>
     obtain ⟨k', hk'⟩ := Option.isSome_iff_exists.1 (hf f (Array.mem_of_getElem? hi)); simp [hk']
  obtain ⟨r', k1, k2, k3⟩ := B05 (place := fun i => (fs.map fun f => (f.offset, ((P.info? f.type).map (·.size)).getD 0))[i]?) _ _ z.cells.toList z.cells r hv
   (B11 hpl hp (by intro x hx; exact hr x (by simpa using hx))) c1 c2
  refine ⟨.agg r', ?_, ?_⟩
  ·simp only [Instr.build, Sem.run_bind, Q6 hk hz, C3 hu, Result.andThen_ok, hm]; simp only [Array.toList_map]; rw [k1]; rfl
  ·have := VR.aggL k2 k3; simpa using this
 ·rename_i n el hu; obtain ⟨k', hk'⟩ := Option.isSome_iff_exists.1 hg; have hpl : ∀ i, (fun i => some (i * k'.size, k'.size)) i = A6w P st i := by
   intro i; simp [A6w, hu, hk']
  obtain ⟨r', k1, k2, k3⟩ := B05 (place := fun i => some (i * k'.size, k'.size)) _ _ z.cells.toList z.cells r hv
   (B11 hpl hp (by intro x hx; exact hr x (by simpa using hx))) c1 c2
  refine ⟨.agg r', ?_, ?_⟩
  ·simp only [Instr.build, Sem.run_bind, Q6 hk hz, C3 hu, Result.andThen_ok, I4 hk']; simp only [Array.toList_map]; rw [k1]; rfl
  ·have := VR.aggL k2 k3; simpa using this
 ·cases hg
theorem K4 {s : Sem Value} {v' : Value} (h : s.run P w = .ok v' w) (hv : VR β v v') : ∃ v', (do pure (Next.value (← s)) : Sem Next).run P w = .ok (.value v') w ∧ VR β v v' :=
 ⟨v', by simp [h], hv⟩
theorem C4p (h : trP P ren o.op = some p) (hw : WR lim β H w) (hren : ∀ x ∈ o.op.operands, ∀ a, ren x = some a → VR β (a.ev e t) (ρ x)) (hconst : ∀ x, ρ (.const x) = x) (hv : p.ev H e t = some v) :
 D0u P β w ρ o v := by
 unfold D0u execOp; cases hop : o.op <;> rw [hop] at h hren <;> simp only [trP] at h <;> try (cases h; done)
 case move x =>
  obtain ⟨a, ha, rfl⟩ := Option.map_eq_some_iff.1 h; cases hv; exact ⟨_, rfl, hren x (by simp [Op.operands]) a ha⟩
 case assign x =>
  obtain ⟨a, ha, rfl⟩ := Option.map_eq_some_iff.1 h; cases hv; exact ⟨_, rfl, hren x (by simp [Op.operands]) a ha⟩
 case pick c a b =>
  obtain ⟨c1, hc, h⟩ := Option.bind_eq_some_iff.1 h; obtain ⟨a1, ha, h⟩ := Option.bind_eq_some_iff.1 h; obtain ⟨b1, hb, rfl⟩ := Option.map_eq_some_iff.1 h; have h1 := hren c (by simp [Op.operands]) c1 hc; have h2 := hren a (by simp [Op.operands]) a1 ha; have h3 := hren b (by simp [Op.operands]) b1 hb; simp only [POp.ev, O0, P5, F5, D5, Z1, F1, A1s, T2, T5, R1, A1m, l6, O6, O3, A0m, O5, R5, T4, P4, P2, F6] at hv; split at hv
  ·rename_i he; rw [he] at h1; cases hv; exact ⟨_, by simp [asBool, h1.bool_inv], h2⟩
  ·rename_i he; rw [he] at h1; cases hv; exact ⟨_, by simp [asBool, h1.bool_inv], h3⟩
  ·cases hv
 case binOp op xt x y yt =>
  split at h
  ·rename_i hq; have hop2 : op = .eql ∨ op = .neq := hq; split at h
   ·obtain ⟨x1, hx, h⟩ := Option.bind_eq_some_iff.1 h; obtain ⟨y1, hy, rfl⟩ := Option.map_eq_some_iff.1 h; exact K4 (C1k (yt := yt) hv (hren x (by simp [Op.operands]) x1 hx) (hren y (by simp [Op.operands]) y1 hy)) (B2v hv)
   ·obtain ⟨x1, hx, h⟩ := Option.bind_eq_some_iff.1 h; obtain ⟨y1, hy, rfl⟩ := Option.map_eq_some_iff.1 h; exact K4 (C1k (yt := yt) hv (hren x (by simp [Op.operands]) x1 hx) (hren y (by simp [Op.operands]) y1 hy)) (B2v hv)
   ·rename_i hu; obtain ⟨x1, hx, h⟩ := Option.bind_eq_some_iff.1 h; obtain ⟨y1, hy, rfl⟩ := Option.map_eq_some_iff.1 h; exact K4 (C7h hop2 hu hv (hren x (by simp [Op.operands]) x1 hx) (hren y (by simp [Op.operands]) y1 hy)) (C2q hv)
   ·rename_i el hu; split at h
    ·obtain ⟨x1, hx, rfl⟩ := Option.map_eq_some_iff.1 h; have hx' := hren x (by simp [Op.operands]) x1 hx; obtain ⟨n, hn, rfl⟩ := Option.map_eq_some_iff.1 hv; have hc := hconst (.slice none 0 0); refine K4 ?_ (.bool _); rw [hc]; exact B1t hop2 hn hx' ⟨rfl, _, hu⟩
    ·cases h
   ·rename_i el hu; split at h
    ·obtain ⟨x1, hx, rfl⟩ := Option.map_eq_some_iff.1 h; have hx' := hren x (by simp [Op.operands]) x1 hx; obtain ⟨n, hn, rfl⟩ := Option.map_eq_some_iff.1 hv; have hc := hconst (.pointer none); refine K4 ?_ (.bool _); rw [hc]; exact B1t hop2 hn hx' ⟨rfl, _, hu⟩
    ·cases h
   ·rename_i p1 p2 p3 hu; split at h
    ·obtain ⟨x1, hx, rfl⟩ := Option.map_eq_some_iff.1 h; have hx' := hren x (by simp [Op.operands]) x1 hx; obtain ⟨n, hn, rfl⟩ := Option.map_eq_some_iff.1 hv; have hc := hconst .nilFunc; refine K4 ?_ (.bool _); rw [hc]; exact B1t hop2 hn hx' ⟨rfl, _, _, _, hu⟩
    ·cases h
   ·rename_i ms hu; split at h
    ·obtain ⟨x1, hx, rfl⟩ := Option.map_eq_some_iff.1 h; have hx' := hren x (by simp [Op.operands]) x1 hx; obtain ⟨n, hn, rfl⟩ := Option.map_eq_some_iff.1 hv; have hc := hconst .nilIface; refine K4 ?_ (.bool _); rw [hc]; exact B1t hop2 hn hx' ⟨rfl, _, hu⟩
    ·cases h
   ·rename_i fs hu; split at h
    ·rename_i hf; obtain ⟨x1, hx, h⟩ := Option.bind_eq_some_iff.1 h; obtain ⟨y1, hy, rfl⟩ := Option.map_eq_some_iff.1 h; exact K4 (D3x hop2 hu hf hv (hren x (by simp [Op.operands]) x1 hx) (hren y (by simp [Op.operands]) y1 hy)) (C9n hv)
    ·cases h
   ·cases h
  ·obtain ⟨x1, hx, h⟩ := Option.bind_eq_some_iff.1 h; obtain ⟨y1, hy, rfl⟩ := Option.map_eq_some_iff.1 h; exact K4 (C1k (yt := yt) hv (hren x (by simp [Op.operands]) x1 hx) (hren y (by simp [Op.operands]) y1 hy)) (B2v hv)
 case unOp op xt x =>
  obtain ⟨x1, hx, rfl⟩ := Option.map_eq_some_iff.1 h; have hx' := hren x (by simp [Op.operands]) x1 hx; simp only [POp.ev, unV] at hv; split at hv
  ·rename_i he; rw [he] at hx'; split at hv
   ·cases hv; refine K4 ?_ (.int _ _); rw [hx'.int_inv]; rfl
   ·cases hv
  ·rename_i he; rw [he] at hx'; split at hv
   ·cases hv; refine K4 ?_ (.bool _); rw [hx'.bool_inv]; rfl
   ·cases hv
  ·cases hv
 case convert st dt x =>
  split at h
  ·rename_i hs hd; obtain ⟨x1, hx, rfl⟩ := Option.map_eq_some_iff.1 h; have hx' := hren x (by simp [Op.operands]) x1 hx; simp only [POp.ev, O0, P5, F5, D5, Z1, F1, A1s, T2, T5, R1, A1m, l6, O6, O3, A0m, O5, R5, T4, P4, P2, F6] at hv; split at hv
   ·rename_i he; rw [he] at hx'; cases hv; refine K4 ?_ (.int _ _); rw [hx'.int_inv]; simp [Go.convert, C3 hs, C3 hd, Conv.intToInt]
   ·cases hv
  ·cases h
 case load lt a =>
  obtain ⟨g, hg, h⟩ := Option.bind_eq_some_iff.1 h; cases g with
  | false =>
    simp only [Bool.false_eq_true, if_false] at h; obtain ⟨a1, ha, rfl⟩ := Option.map_eq_some_iff.1 h; have ha' := hren a (by simp [Op.operands]) a1 ha; simp only [POp.ev, O0, P5, F5, D5, Z1, F1, A1s, T2, T5, R1, A1m, l6, O6, O3, A0m, O5, R5, T4, P4, P2, F6] at hv; split at hv
    ·rename_i he; rw [he] at ha'; obtain ⟨v', k1, k2⟩ := C24 hg hw hv ha'; exact K4 k1 k2
    ·cases hv
  | true =>
    simp only [if_true] at h; obtain ⟨i, hi, h⟩ := Option.bind_eq_some_iff.1 h; obtain ⟨a1, ha, rfl⟩ := Option.map_eq_some_iff.1 h; have ha' := hren a (by simp [Op.operands]) a1 ha; simp only [POp.ev, O0, P5, F5, D5, Z1, F1, A1s, T2, T5, R1, A1m, l6, O6, O3, A0m, O5, R5, T4, P4, P2, F6] at hv; split at hv
    ·rename_i he; rw [he] at ha'; obtain ⟨l, hl, rfl⟩ := Option.map_eq_some_iff.1 hv; obtain ⟨v', k1, k2⟩ := C23 hg hi hw hl ha'; exact K4 k1 k2
    ·cases hv
 case nilCheck x =>
  obtain ⟨x1, hx, rfl⟩ := Option.map_eq_some_iff.1 h; have hx' := hren x (by simp [Op.operands]) x1 hx; simp only [POp.ev, O0, P5, F5, D5, Z1, F1, A1s, T2, T5, R1, A1m, l6, O6, O3, A0m, O5, R5, T4, P4, P2, F6] at hv; split at hv
  ·rename_i ad he; rw [he] at hx'; cases hv; have k : ∃ a', ρ x = .pointer (some a') ∧ VR β (.pointer (some ad)) (.pointer (some a')) := by
    generalize ρ x = q at hx'; cases hx' with
    | ptr hβ => exact ⟨_, rfl, .ptr hβ⟩
   obtain ⟨a', k1, k2⟩ := k; exact ⟨.pointer (some a'), by simp [k1], k2⟩
  ·rename_i f fs cs he; rw [he] at hx'; cases hv; have k : ∃ cs', ρ x = .func (.func f) #[] cs' ∧ VR β (.func (.func f) fs cs) (.func (.func f) #[] cs') := by
    generalize ρ x = q at hx'; cases hx' with
    | func hs hc => exact ⟨_, rfl, .func hs hc⟩
   obtain ⟨a', k1, k2⟩ := k; exact ⟨.func (.func f) #[] a', by simp [k1], k2⟩
  ·cases hv
 case fieldAddr st x f =>
  split at h
  ·rename_i fs hu; obtain ⟨fd, hf, h⟩ := Option.bind_eq_some_iff.1 h; obtain ⟨k, hk, h⟩ := Option.bind_eq_some_iff.1 h; split at h
   ·cases h
   ·rename_i hz; obtain ⟨x1, hx, rfl⟩ := Option.map_eq_some_iff.1 h; have hx' := hren x (by simp [Op.operands]) x1 hx; simp only [POp.ev, O0, P5, F5, D5, Z1, F1, A1s, T2, T5, R1, A1m, l6, O6, O3, A0m, O5, R5, T4, P4, P2, F6] at hv; split at hv
    ·rename_i he; rw [he] at hx'; cases hv; obtain ⟨v', k1, k2⟩ := D26 (P := P) (w := w) hu hf hk hz hx'; exact K4 k1 k2
    ·cases hv
  ·cases h
 case field st x f =>
  split at h
  ·rename_i fs hu; obtain ⟨fd, hf, h⟩ := Option.bind_eq_some_iff.1 h; obtain ⟨g, hg, h⟩ := Option.bind_eq_some_iff.1 h; cases g with
   | true =>
     simp only [if_true] at h; obtain ⟨k, hk, h⟩ := Option.bind_eq_some_iff.1 h; obtain ⟨x1, hx, rfl⟩ := Option.map_eq_some_iff.1 h; have hx' := hren x (by simp [Op.operands]) x1 hx; simp only [POp.ev, O0, P5, F5, D5, Z1, F1, A1s, T2, T5, R1, A1m, l6, O6, O3, A0m, O5, R5, T4, P4, P2, F6] at hv; split at hv
     ·rename_i he; rw [he] at hx'; cases hv; obtain ⟨v', k1, k2⟩ := D1f (P := P) (w := w) hu hf hg hk hx'; exact K4 k1 k2
     ·cases hv
   | false =>
     simp only [Bool.false_eq_true, if_false] at h; obtain ⟨x1, hx, rfl⟩ := Option.map_eq_some_iff.1 h; have hx' := hren x (by simp [Op.operands]) x1 hx; simp only [POp.ev, O0, P5, F5, D5, Z1, F1, A1s, T2, T5, R1, A1m, l6, O6, O3, A0m, O5, R5, T4, P4, P2, F6] at hv; split at hv
     ·rename_i he; rw [he] at hx'; obtain ⟨v', k1, k2⟩ := D1r (P := P) (w := w) hu hf hg hx' hv; exact K4 k1 k2
     ·cases hv
  ·cases h
 case indexAddr st x ix =>
  split at h
  ·rename_i el hu; obtain ⟨k, hk, h⟩ := Option.bind_eq_some_iff.1 h; obtain ⟨x1, hx, h⟩ := Option.bind_eq_some_iff.1 h; obtain ⟨i1, hi, rfl⟩ := Option.map_eq_some_iff.1 h; have hx' := hren x (by simp [Op.operands]) x1 hx; have hi' := hren ix (by simp [Op.operands]) i1 hi; simp only [POp.ev, O0, P5, F5, D5, Z1, F1, A1s, T2, T5, R1, A1m, l6, O6, O3, A0m, O5, R5, T4, P4, P2, F6] at hv; split at hv
   ·rename_i he1 he2; rw [he1] at hx'; rw [he2] at hi'; split at hv
    ·rename_i hn; cases hv; obtain ⟨v', k1, k2⟩ := D27 (P := P) (w := w) hu hk hx' hi' hn; exact K4 k1 k2
    ·cases hv
   ·cases hv
  ·rename_i n el hu; obtain ⟨k, hk, h⟩ := Option.bind_eq_some_iff.1 h; obtain ⟨x1, hx, h⟩ := Option.bind_eq_some_iff.1 h; obtain ⟨i1, hi, rfl⟩ := Option.map_eq_some_iff.1 h; have hx' := hren x (by simp [Op.operands]) x1 hx; have hi' := hren ix (by simp [Op.operands]) i1 hi; simp only [POp.ev, O0, P5, F5, D5, Z1, F1, A1s, T2, T5, R1, A1m, l6, O6, O3, A0m, O5, R5, T4, P4, P2, F6] at hv; split at hv
   ·rename_i he1 he2; rw [he1] at hx'; rw [he2] at hi'; split at hv
    ·rename_i hn; cases hv; obtain ⟨v', k1, k2⟩ := D3v (P := P) (w := w) hu hk hx' hi' hn; exact K4 k1 k2
    ·cases hv
   ·cases hv
  ·cases h
 case index st x ix =>
  split at h
  ·rename_i hu; obtain ⟨x1, hx, h⟩ := Option.bind_eq_some_iff.1 h; obtain ⟨i1, hi, rfl⟩ := Option.map_eq_some_iff.1 h; have hx' := hren x (by simp [Op.operands]) x1 hx; have hi' := hren ix (by simp [Op.operands]) i1 hi; simp only [POp.ev, O0, P5, F5, D5, Z1, F1, A1s, T2, T5, R1, A1m, l6, O6, O3, A0m, O5, R5, T4, P4, P2, F6] at hv; split at hv
   ·rename_i he1 he2; rw [he1] at hx'; rw [he2] at hi'; split at hv
    ·rename_i hn; obtain ⟨b, hb, rfl⟩ := Option.map_eq_some_iff.1 hv; exact K4 (D3z hu hx' hi' hn hb) (.int _ _)
    ·cases hv
   ·cases hv
  ·rename_i n el hu; obtain ⟨g, hg, h⟩ := Option.bind_eq_some_iff.1 h; cases g with
   | true => simp at h
   | false =>
     simp only [Bool.false_eq_true, if_false] at h; obtain ⟨k, hk, h⟩ := Option.bind_eq_some_iff.1 h; obtain ⟨x1, hx, h⟩ := Option.bind_eq_some_iff.1 h; obtain ⟨i1, hi, rfl⟩ := Option.map_eq_some_iff.1 h; have hx' := hren x (by simp [Op.operands]) x1 hx; have hi' := hren ix (by simp [Op.operands]) i1 hi; simp only [POp.ev, O0, P5, F5, D5, Z1, F1, A1s, T2, T5, R1, A1m, l6, O6, O3, A0m, O5, R5, T4, P4, P2, F6] at hv; split at hv
     ·rename_i he1 he2; rw [he1] at hx'; rw [he2] at hi'; split at hv
      ·rename_i hn; obtain ⟨v', k1, k2⟩ := D1j (P := P) (w := w) hu hg hk hx' hi' hn hv; exact K4 k1 k2
      ·cases hv
     ·cases hv
  ·cases h
 case extract x i =>
  obtain ⟨x1, hx, rfl⟩ := Option.map_eq_some_iff.1 h; have hx' := hren x (by simp [Op.operands]) x1 hx; simp only [POp.ev, O0, P5, F5, D5, Z1, F1, A1s, T2, T5, R1, A1m, l6, O6, O3, A0m, O5, R5, T4, P4, P2, F6] at hv; split at hv
  ·rename_i he; rw [he] at hx'; obtain ⟨v', k1, k2⟩ := D20 (P := P) (w := w) hx' hv; exact K4 k1 k2
  ·cases hv
 case slice st x lo hi mx =>
  split at h
  ·rename_i el hu; obtain ⟨k, hk, h⟩ := Option.bind_eq_some_iff.1 h; obtain ⟨x1, hx, h⟩ := Option.bind_eq_some_iff.1 h; obtain ⟨lo1, hl, h⟩ := Option.bind_eq_some_iff.1 h; obtain ⟨hi1, hh, h⟩ := Option.bind_eq_some_iff.1 h; obtain ⟨mx1, hm, rfl⟩ := Option.map_eq_some_iff.1 h; have hx' := hren x (by simp [Op.operands]) x1 hx; have h1 := A2g (e := e) (t := t) hl fun z hz => hren z (by subst hz; simp [Op.operands])
   have h2 := A2g (e := e) (t := t) hh fun z hz => hren z (by subst hz; simp [Op.operands])
   have h3 := A2g (e := e) (t := t) hm fun z hz => hren z (by subst hz; simp [Op.operands])
   simp only [POp.ev, O0, P5, F5, D5, Z1, F1, A1s, T2, T5, R1, A1m, l6, O6, O3, A0m, O5, R5, T4, P4, P2, F6] at hv; split at hv
   ·rename_i he; rw [he] at hx'; obtain ⟨⟨l, hh0, m⟩, hb, hv⟩ := Option.bind_eq_some_iff.1 hv; simp only at hv; split at hv
    ·obtain ⟨v', k1, k2⟩ := C87 (P := P) (w := w) (sz := k.size) hu hk hb hx' (by intro ad h; cases h) h1 h2 h3; cases hv; exact K4 k1 k2
    ·split at hv
     ·rename_i hsp; obtain ⟨v', k1, k2⟩ := C87 (P := P) (w := w) (sz := k.size) hu hk hb hx' (by intro ad h; cases h; exact hsp) h1 h2 h3; cases hv; exact K4 k1 (by simpa using k2)
     ·cases hv
   ·cases hv
  ·rename_i n el hu; obtain ⟨k, hk, h⟩ := Option.bind_eq_some_iff.1 h; obtain ⟨x1, hx, h⟩ := Option.bind_eq_some_iff.1 h; obtain ⟨lo1, hl, h⟩ := Option.bind_eq_some_iff.1 h; obtain ⟨hi1, hh, h⟩ := Option.bind_eq_some_iff.1 h; obtain ⟨mx1, hm, rfl⟩ := Option.map_eq_some_iff.1 h; have hx' := hren x (by simp [Op.operands]) x1 hx; have h1 := A2g (e := e) (t := t) hl fun z hz => hren z (by subst hz; simp [Op.operands])
   have h2 := A2g (e := e) (t := t) hh fun z hz => hren z (by subst hz; simp [Op.operands])
   have h3 := A2g (e := e) (t := t) hm fun z hz => hren z (by subst hz; simp [Op.operands])
   simp only [POp.ev, O0, P5, F5, D5, Z1, F1, A1s, T2, T5, R1, A1m, l6, O6, O3, A0m, O5, R5, T4, P4, P2, F6] at hv; split at hv
   ·rename_i he; rw [he] at hx'; obtain ⟨⟨l, hh0, m⟩, hb, hv⟩ := Option.bind_eq_some_iff.1 hv; obtain ⟨v', k1, k2⟩ := D17 (P := P) (w := w) hu hk hb hx' h1 h2 h3; cases hv; exact K4 k1 k2
   ·cases hv
  ·rename_i hu; split at h
   ·obtain ⟨x1, hx, h⟩ := Option.bind_eq_some_iff.1 h; obtain ⟨lo1, hl, h⟩ := Option.bind_eq_some_iff.1 h; obtain ⟨hi1, hh, rfl⟩ := Option.map_eq_some_iff.1 h; have hx' := hren x (by simp [Op.operands]) x1 hx; have h1 := A2g (e := e) (t := t) hl fun z hz => hren z (by subst hz; simp [Op.operands])
    have h2 := A2g (e := e) (t := t) hh fun z hz => hren z (by subst hz; simp [Op.operands])
    simp only [POp.ev, O0, P5, F5, D5, Z1, F1, A1s, T2, T5, R1, A1m, l6, O6, O3, A0m, O5, R5, T4, P4, P2, F6] at hv; split at hv
    ·rename_i he; rw [he] at hx'; obtain ⟨⟨l, hh0, m⟩, hb, hv⟩ := Option.bind_eq_some_iff.1 hv; cases hv; exact K4 (D1b hu hb hx' h1 h2) (.string _)
    ·cases hv
   ·cases h
  ·cases h
 case makeFunc fn first caps =>
  cases fn <;> simp only [trP] at h <;> try (cases h; done)
  rename_i f; split at h
  ·rename_i hf; obtain ⟨l, hl, rfl⟩ := Option.map_eq_some_iff.1 h; cases hv; have hf0 : first = #[] := by simpa using hf
   subst hf0; have k := B6b (e := e) (t := t) hl fun z hz => hren z (by simp [Op.operands]; simpa using hz)
   refine K4 (v' := .func (.func f) #[] (caps.map ρ)) (by simp [Instr.makeFunc]) (.func ?_ ?_)
   ·simpa using k.1
   ·intro i a a' g1 g2; refine k.2 i a a' (by simpa using g1) ?_; simpa using g2
  ·cases h
 case build st parts =>
  obtain ⟨k, hk, h⟩ := Option.bind_eq_some_iff.1 h; split at h
  ·rename_i z hz; split at h
   ·rename_i hc; obtain ⟨l, hl, rfl⟩ := Option.map_eq_some_iff.1 h; obtain ⟨r, hr, rfl⟩ := Option.map_eq_some_iff.1 hv; obtain ⟨v', k1, k2⟩ := D2r (P := P) (w := w) hk hz hc.1 hc.2 hl (fun x hx => hren x.2 (by simp [Op.operands]; exact ⟨x.1, by simpa using hx⟩)) hr; exact K4 k1 k2
   ·cases h
  ·cases h
 case call c =>
  obtain ⟨callee, args, argTypes⟩ := c; simp only at h; split at h
  ·rename_i x at0 h1 h2; have ea : args = #[x] := by apply Array.ext'; simpa using h1
   have et : argTypes = #[at0] := by apply Array.ext'; simpa using h2
   subst ea et; have hmem : x ∈ (Op.call ⟨.builtin .len, #[x], #[at0]⟩).operands := by simp [Op.operands, Call.operands]
   split at h
   ·rename_i el hu; obtain ⟨x1, hx, rfl⟩ := Option.map_eq_some_iff.1 h; have hx' := hren x hmem x1 hx; simp only [POp.ev, O0, P5, F5, D5, Z1, F1, A1s, T2, T5, R1, A1m, l6, O6, O3, A0m, O5, R5, T4, P4, P2, F6] at hv; split at hv
    ·rename_i a n cp he; rw [he] at hx'; cases hv; obtain ⟨a', c', k⟩ : ∃ a' c', ρ x = .slice a' n c' := by
      generalize ρ x = q at hx'; cases hx' <;> exact ⟨_, _, rfl⟩
     exact ⟨.int .i64 n, by simp [resolve, invoke, builtin, Builtin.len_, C3 hu, k, goInt], .int _ _⟩
    ·cases hv
   ·rename_i hu; obtain ⟨x1, hx, rfl⟩ := Option.map_eq_some_iff.1 h; have hx' := hren x hmem x1 hx; simp only [POp.ev, O0, P5, F5, D5, Z1, F1, A1s, T2, T5, R1, A1m, l6, O6, O3, A0m, O5, R5, T4, P4, P2, F6] at hv; split at hv
    ·rename_i str he; rw [he] at hx'; cases hv; have k : ρ x = .string str := by
      generalize ρ x = q at hx'; cases hx'; rfl
     exact ⟨.int .i64 str.size, by simp [resolve, invoke, builtin, Builtin.len_, C3 hu, k, goInt], .int _ _⟩
    ·cases hv
   ·cases h
  ·rename_i x at0 h1 h2; have ea : args = #[x] := by apply Array.ext'; simpa using h1
   have et : argTypes = #[at0] := by apply Array.ext'; simpa using h2
   subst ea et; have hmem : x ∈ (Op.call ⟨.builtin .cap, #[x], #[at0]⟩).operands := by simp [Op.operands, Call.operands]
   split at h
   ·rename_i el hu; obtain ⟨x1, hx, rfl⟩ := Option.map_eq_some_iff.1 h; have hx' := hren x hmem x1 hx; simp only [POp.ev, O0, P5, F5, D5, Z1, F1, A1s, T2, T5, R1, A1m, l6, O6, O3, A0m, O5, R5, T4, P4, P2, F6] at hv; split at hv
    ·rename_i n cp he; rw [he] at hx'; cases hv; obtain ⟨a', c', k⟩ : ∃ a' c', ρ x = .slice a' c' 0 := by
      generalize ρ x = q at hx'; cases hx' <;> exact ⟨_, _, rfl⟩
     exact ⟨.int .i64 0, by simp [resolve, invoke, builtin, Builtin.cap_, C3 hu, k, goInt], .int _ _⟩
    ·rename_i b o n cp he; rw [he] at hx'; cases hv; obtain ⟨a', c', k⟩ : ∃ a' c', ρ x = .slice a' c' cp := by
      generalize ρ x = q at hx'; cases hx' <;> exact ⟨_, _, rfl⟩
     exact ⟨.int .i64 cp, by simp [resolve, invoke, builtin, Builtin.cap_, C3 hu, k, goInt], .int _ _⟩
    ·cases hv
   ·cases h
  ·rename_i x y h1; have ea : args = #[x, y] := by apply Array.ext'; simpa using h1
   subst ea; have m1 : x ∈ (Op.call ⟨.builtin .max, #[x, y], argTypes⟩).operands := by simp [Op.operands, Call.operands]
   have m2 : y ∈ (Op.call ⟨.builtin .max, #[x, y], argTypes⟩).operands := by simp [Op.operands, Call.operands]
   obtain ⟨x1, hx, h⟩ := Option.bind_eq_some_iff.1 h; obtain ⟨y1, hy, rfl⟩ := Option.map_eq_some_iff.1 h; have hx' := hren x m1 x1 hx; have hy' := hren y m2 y1 hy; simp only [POp.ev, O0, P5, F5, D5, Z1, F1, A1s, T2, T5, R1, A1m, l6, O6, O3, A0m, O5, R5, T4, P4, P2, F6] at hv; split at hv
   ·rename_i he1 he2; rw [he1] at hx'; rw [he2] at hy'; cases hv; exact ⟨_, by simp [resolve, invoke, builtin, Builtin.max_, Builtin.max2, hx'.int_inv, hy'.int_inv], .int _ _⟩
   ·cases hv
  ·rename_i x y h1; have ea : args = #[x, y] := by apply Array.ext'; simpa using h1
   subst ea; have m1 : x ∈ (Op.call ⟨.builtin .min, #[x, y], argTypes⟩).operands := by simp [Op.operands, Call.operands]
   have m2 : y ∈ (Op.call ⟨.builtin .min, #[x, y], argTypes⟩).operands := by simp [Op.operands, Call.operands]
   obtain ⟨x1, hx, h⟩ := Option.bind_eq_some_iff.1 h; obtain ⟨y1, hy, rfl⟩ := Option.map_eq_some_iff.1 h; have hx' := hren x m1 x1 hx; have hy' := hren y m2 y1 hy; simp only [POp.ev, O0, P5, F5, D5, Z1, F1, A1s, T2, T5, R1, A1m, l6, O6, O3, A0m, O5, R5, T4, P4, P2, F6] at hv; split at hv
   ·rename_i he1 he2; rw [he1] at hx'; rw [he2] at hy'; cases hv; exact ⟨_, by simp [resolve, invoke, builtin, Builtin.min_, Builtin.min2, hx'.int_inv, hy'.int_inv], .int _ _⟩
   ·cases hv
  ·cases h
end
end Go.Ab
