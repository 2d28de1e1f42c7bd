/- A part of the proof of a statement of this seat: the program logic; no condition. -/
import Derived.Test.YtmdeppkfboaepaaGreatAbTr
namespace Go.Ab
set_option linter.unusedVariables false
set_option linter.unusedSimpArgs false
def F8 (cs : List Value) (o : Nat) (l : List Value) : List Value := cs.take o ++ l ++ cs.drop (o + l.length)
theorem A12 {cs : List Value} {o : Nat} {l : List Value} (h : o + l.length ≤ cs.length) : (F8 cs o l).length = cs.length := by
 simp [F8]; omega
theorem B7b (cs : List Value) (o : Nat) : F8 cs o [] = cs := by simp [F8]
theorem B2s {cs : List Value} {o : Nat} {x : Value} {l : List Value} (h : o < cs.length) : F8 cs o (x :: l) = F8 (cs.set o x) (o + 1) l := by
 unfold F8; rw [List.drop_set_of_lt (by omega), List.take_succ_eq_append_getElem (by simpa using h), List.take_set_of_le (Nat.le_refl _)]; simp [Nat.add_assoc, Nat.add_comm 1]
theorem B6h {cs : List Value} {o : Nat} {l : List Value} (h : o + l.length ≤ cs.length) (i : Nat) :
 (F8 cs o l)[i]? = if i < o then cs[i]? else if i < o + l.length then l[i - o]? else cs[i]? := by
 unfold F8; have ht : (cs.take o).length = o := by simp; omega
 by_cases h1 : i < o
 ·rw [if_pos h1, List.append_assoc, List.getElem?_append_left (by omega), List.getElem?_take, if_pos h1]
 ·rw [if_neg h1, List.append_assoc, List.getElem?_append_right (by omega), ht]; by_cases h2 : i < o + l.length
  ·rw [if_pos h2, List.getElem?_append_left (by omega)]
  ·rw [if_neg h2, List.getElem?_append_right (by omega), List.getElem?_drop]
   congr 1; omega
def K3 : Nat → List Value → List Value
 | 0, _ => []
 | n + 1, z => z ++ K3 n z
theorem i9 (n : Nat) (z : List Value) : (K3 n z).length = n * z.length := by
 induction n with
 | zero => simp [K3]
 | succ n ih => simp [K3, ih, Nat.succ_mul]; omega
theorem C5q (n : Nat) (z : List Value) (i : Nat) (h : i < n * z.length) : (K3 n z)[i]? = z[i % z.length]? := by
 induction n generalizing i with
 | zero => simp at h
 | succ n ih =>
   have hz : 0 < z.length := by
    rcases Nat.eq_zero_or_pos z.length with h0 | h0
    ·rw [h0] at h; simp at h
    ·exact h0
   simp only [K3]; by_cases hi : i < z.length
   ·rw [List.getElem?_append_left hi, Nat.mod_eq_of_lt hi]
   ·rw [List.getElem?_append_right (by omega), ih (i - z.length) (by rw [Nat.succ_mul] at h; omega), ← Nat.mod_eq_sub_mod (by omega)]
theorem A2v.trans {w w1 w2 : World} {r : Nat} {c1 c2 : Array Value} (h : A2v w w1 r c1) (k : A2v w1 w2 r c2) : A2v w w2 r c2 :=
 ⟨k.os.trans h.os, k.tape.trans h.tape, k.output.trans h.output, k.size.trans h.size, k.here, fun r' hr => (k.else_ r' hr).trans (h.else_ r' hr)⟩
theorem A2v.refl {w : World} {r : Nat} {c : Array Value} {e : TypeId} (h : w.heap[r]? = some (.cells c e (0, 0))) : A2v w w r c :=
 ⟨rfl, rfl, rfl, rfl, ⟨e, h⟩, fun _ _ => rfl⟩
theorem A2v.setCell {w : World} {r o : Nat} {c : Array Value} {e : TypeId} (h : w.heap[r]? = some (.cells c e (0, 0))) (v : Value) :
 A2v w (w.setCell ⟨r, o, none⟩ v) r (c.setIfInBounds o v) := by
 refine ⟨rfl, rfl, rfl, by simp [World.setCell], ⟨e, ?_⟩, fun r' hr => ?_⟩
 ·simp only [World.setCell, Array.getElem?_modify, h]; simp
 ·simp only [World.setCell, Array.getElem?_modify]; rw [if_neg (fun h => hr h.symm)]
section
variable {P : Program} {β : Inj} {H : A1} {w : World} {lim : Nat}
theorem A0r {r s : Nat} : ∀ (l : List Value) (i : Nat) (w : World) (c : Array Value) (e : TypeId), w.heap[r]? = some (.cells c e (0, 0)) → s + i + l.length ≤ c.size → Z0 l →
 ∃ w' c', (storeCells ⟨r, s, none⟩ l i).run P w = .ok () w' ∧ A2v w w' r c' ∧ c'.toList = F8 c.toList (s + i) l
 | [], i, w, c, e, h, _, _ => ⟨w, c, rfl, A2v.refl h, by rw [B7b]⟩
 | x :: l, i, w, c, e, h, hs, ho => by
   have hx : x.oneCell' = true := ho 0 x rfl; have hl : Z0 l := fun j v hv => ho (j + 1) v (by simpa using hv)
   simp at hs; have hc : w.cell? ⟨r, s + i, none⟩ = some c[s + i] := by
    simp only [World.cell?, h]; simp
   have hf : w.frozen? ⟨r, s + i, none⟩ = false := by
    simp [World.frozen?, h]
   have h1 := A2v.setCell (o := s + i) h x; obtain ⟨e1, he1⟩ := h1.here; obtain ⟨w', c', k1, k2, k3⟩ := A0r (r := r) (s := s) l (i + 1) (w.setCell ⟨r, s + i, none⟩ x) (c.setIfInBounds (s + i) x) e1 he1 (by simp; omega) hl; refine ⟨w', c', ?_, h1.trans k2, ?_⟩
   ·simp only [storeCells, Sem.run_bind, Addr.add_none, run_store P w _ x _ hx, hc, hf]; simp only [Bool.false_eq_true, if_false, Result.andThen_ok]; exact k1
   ·rw [k3, B2s (by simp; omega)]; simp; rfl
theorem B5l {b o r s z : Nat} {cs l l' : List Value} (hw : WR lim β H w) (hl : lim ≤ b) (hb : H.blk b = some cs) (hβ : β b = some (r, s, z)) (hle : o + l.length ≤ cs.length) (hv : VRs β l l') (ho : Z0 l') :
 ∃ w', (storeCells ⟨r, s + o, none⟩ l').run P w = .ok () w' ∧ WR lim β (H.put b (F8 cs o l)) w' ∧ Fr lim H β w (H.put b (F8 cs o l)) β w' := by
 obtain ⟨r0, s0, z0, c, e, fr, h1, h2, hz, h3, h4, h5⟩ := hw.live b cs hb; rw [hβ] at h1; cases h1; rw [h4 hl] at h2; have hll := hv.1; obtain ⟨w', c', k1, k2, k3⟩ := A0r (P := P) (r := r) (s := s + o) l' 0 w c e h2 (by omega) ho; have hc' : c'.size = z := by
  have : c'.toList.length = c.toList.length := by rw [k3]; exact A12 (by simp; omega)
  simpa [hz] using this
 have := hw.write (cs' := F8 cs o l) hl hb (by rw [hc']; exact hβ) k2 (by rw [A12 hle, hc']; omega) ?_
 ·exact ⟨w', k1, this⟩
 ·intro i v v' g1 g2; rw [B6h hle] at g1; have g2' : c'.toList[s + i]? = some v' := by simpa using g2
  rw [k3, Nat.add_zero, B6h (by simp; omega)] at g2'; split at g1
  ·rename_i hi; rw [if_pos (by omega)] at g2'; exact h5 i v v' g1 (by simpa using g2')
  ·rename_i hi; rw [if_neg (by omega)] at g2'; split at g1
   ·rename_i hi2; rw [if_pos (by omega)] at g2'; rw [show s + i - (s + o) = i - o from by omega] at g2'; exact ⟨hv.2 _ _ _ g1 g2', ho _ _ g2'⟩
   ·rename_i hi2; rw [if_neg (by omega)] at g2'; exact h5 i v v' g1 (by simpa using g2')
def A4j (H : A1) (sz n : Nat) : Value → Option (List Value)
 | .slice (some ⟨b, o, _⟩) _ _ => if n = 0 then some [] else P6 H b o (n * sz)
 | .slice none _ _ => if n = 0 then some [] else none
 | _ => none
theorem C2p {sz n ln cp ln' cp' : Nat} {a a' : Option Addr} {l : List Value} (hw : WR lim β H w) (h : A4j H sz n (.slice a ln cp) = some l) (hx : VR β (.slice a ln cp) (.slice a' ln' cp')) (hn : n ≤ ln) (hsz : sz ≠ 0) :
 ∃ l', VRs β l l' ∧ Z0 l' ∧ l.length = n * sz ∧ ∀ w1 : World, w1.heap = w.heap → (Builtin.firstCells sz n (.slice a' ln' cp')).run P w1 = .ok l'.toArray w1 := by
 by_cases h0 : n = 0
 ·subst h0; have hl : l = [] := by
   cases a with
   | none => simp [A4j] at h; exact h
   | some ad => obtain ⟨b, o, sp⟩ := ad; simp [A4j] at h; exact h
  subst hl; refine ⟨[], VRs.nil β, by intro i v h; simp at h, by simp, fun w1 _ => ?_⟩; cases a' with
  | none => simp [Builtin.firstCells]
  | some ad => simp [Builtin.firstCells, loadCells, loadCellsFrom]
 ·cases a with
  | none => simp [A4j, h0] at h
  | some ad =>
    obtain ⟨b, o, sp⟩ := ad; simp only [A4j, if_neg h0] at h; have key : ∀ r s z, β b = some (r, s, z) → a' = some ⟨r, s + o, none⟩ → ∃ l', VRs β l l' ∧ Z0 l' ∧ l.length = n * sz ∧ ∀ w1 : World, w1.heap = w.heap → (Builtin.firstCells sz n (.slice a' ln' cp')).run P w1 = .ok l'.toArray w1 := by
     intro r s z hβ ha; obtain ⟨l', g1, g2, g3, g4⟩ := hw.cells h hβ; refine ⟨l', g1, g2, g3, fun w1 hw1 => ?_⟩; subst ha; refine run_firstCells_some (P := P) w1 sz n _ ln' cp' l' (by rw [← g1.1, g3]) ?_; intro j v hv; have := g4 j v hv; unfold World.cell? at *
     rw [hw1]; exact this
    cases hx with
    | slice hβ hl hc ha =>
      rcases ha with ha | ⟨ha, _⟩
      ·omega
      ·exact key _ _ _ hβ (by rw [ha])
    | sliceX hβ hl ha =>
      rcases ha with ha | ha
      ·omega
      ·exact key _ _ _ hβ (by rw [ha])
theorem i0 {t xt ty e : TypeId} {i : TypeInfo} {d : TypeDesc} (ht : P.underlying t = some (.slice e)) (hxt : P.underlying xt = some d) (hd : ∀ k, d ≠ .int k) (hi : P.info? e = some i)
 {base xb : Option Addr} {sLen sCap n xc : Nat} {new : List Value} {w' : World} (hf : (Builtin.firstCells i.size n (.slice xb n xc)).run P w = .ok new.toArray w) (hroom : sLen + n ≤ sCap)
 (hst : match base with | some a => (storeCells (a.add (sLen * i.size)) new).run P w = .ok () w' | none => w' = w) :
 (Builtin.append_ #[t, xt] ty #[.slice base sLen sCap, .slice xb n xc]).run P w = .ok (.slice base (sLen + n) sCap) w' := by
 have hz : (d matches .int _) = false := by
  cases d <;> first | rfl | exact absurd rfl (hd _)
 cases base with
 | none =>
   subst hst; simp [Builtin.append_, C3 ht, C3 hxt, sizeOf, typeInfo, hi, Builtin.lenOf, hroom, hf, hz]
 | some a =>
   simp only at hst; simp [Builtin.append_, C3 ht, C3 hxt, sizeOf, typeInfo, hi, Builtin.lenOf, hroom, hf, hz, hst]
theorem B3d {t xt ty e : TypeId} {i : TypeInfo} {zv : Value} {d : TypeDesc} (ht : P.underlying t = some (.slice e)) (hxt : P.underlying xt = some d) (hd : ∀ k, d ≠ .int k) (hi : P.info? e = some i) (hz : i.zero = some zv)
 {base xb : Option Addr} {sLen sCap n xc : Nat} {old new : List Value} (hf : (Builtin.firstCells i.size n (.slice xb n xc)).run P w.drew = .ok new.toArray w.drew)
 (hfo : (Builtin.firstCells i.size sLen (.slice base sLen sCap)).run P w.drew = .ok old.toArray w.drew) (hg : sCap < sLen + n) (hb0 : i.bytes ≠ 0) (hb : (sLen + n) * i.bytes ≤ 140737488355328) :
 (Builtin.append_ #[t, xt] ty #[.slice base sLen sCap, .slice xb n xc]).run P w =
  .ok (.slice (some ⟨w.heap.size, 0, none⟩) (sLen + n) (grownCap w (sLen + n) sCap e))
   (w.drew.alloc (.cells (old.toArray ++ new.toArray ++ Builtin.zeroCells zv.cells (grownCap w (sLen + n) sCap e - (sLen + n))) e)) := by
 have hzz : (d matches .int _) = false := by
  cases d <;> first | rfl | exact absurd rfl (hd _)
 have hn : ¬ (sLen + n ≤ sCap) := by omega
 have h48' : ¬ (281474976710656 < Builtin.nextslicecap (sLen + n) sCap * i.bytes) := by
  have := growslice_fits hg hb; omega
 simp [Builtin.append_, C3 ht, C3 hxt, sizeOf, typeInfo, zeroValue, hi, hz, Builtin.lenOf, hn, hb0, h48', Question.forced, hf, hfo, newRow, grownCap, hzz]
 congr 2
 apply Array.ext'; simp [List.append_assoc]
def E4 (lim : Nat) (H : A1) (sz bytes : Nat) (s x : Value) : Option (Value × A1) :=
 match s, x with
 | .slice base len cap, .slice xb n xc =>
   if n = 0 then some (.slice base len cap, H)
   else if xc < n then none
   else (A4j H sz n (.slice xb n xc)).bind fun new =>
    match base with
    | none => if n * bytes ≤ 140737488355328 then some (.slice (some ⟨H.next, 0, some sz⟩) n n, H.alloc new) else none
    | some ⟨b, o, sp⟩ =>
      if len + n ≤ cap then
       if lim ≤ b then (H.blk b).bind fun cs => if o + (len + n) * sz ≤ cs.length then some (.slice (some ⟨b, o, sp⟩) (len + n) cap, H.put b (F8 cs (o + len * sz) new)) else none
       else none
      else if (len + n) * bytes ≤ 140737488355328 then
       (A4j H sz len (.slice (some ⟨b, o, sp⟩) len cap)).bind fun old =>
        if sp = some 0 then some (.slice (some ⟨H.next, 0, some sz⟩) (len + n) (len + n), H.alloc (old ++ new))
        else if sp = some sz ∧ lim ≤ b then (H.blk b).bind fun _ => some (.slice (some ⟨H.next, 0, some sz⟩) (len + n) (len + n), (H.kill b).alloc (old ++ new))
        else none
      else none
 | _, _ => none
def C3d (P : Program) (lim : Nat) (β : Inj) (H : A1) (w : World) (r : Result Value) (v : Value) (H' : A1) : Prop :=
 ∃ v' w' β', r = .ok v' w' ∧ VR β' v v' ∧ WR lim β' H' w' ∧ Fr lim H β w H' β' w'
theorem Fr.drewL {H' : A1} {β' : Inj} {w' : World} (h : Fr lim H β w.drew H' β' w') : Fr lim H β w H' β' w' :=
 ⟨h.le, h.next, h.os, h.tape, h.output, h.size, h.block, h.img, h.low⟩
theorem A86 {xt ty t e : TypeId} {k : TypeInfo} {zv : Value} {d : TypeDesc} (ht : P.underlying t = some (.slice e)) (hxt : P.underlying xt = some d) (hd : ∀ k, d ≠ .int k) (hi : P.info? e = some k) (hz : k.zero = some zv)
 {sz : Nat} (hsz : k.size = sz + 1) (hzc : zv.cells.size = sz + 1) (hb0 : k.bytes ≠ 0)
 {base xb : Option Addr} {len cap' n xc : Nat} {old' new' old new : List Value} (hw : WR lim β H w) (hold : VRs β old old') (ho1 : Z0 old') (hl1 : old.length = len * k.size) (hnew : VRs β new new') (ho2 : Z0 new') (hl2 : new.length = n * k.size)
 (hfo : ∀ w1 : World, w1.heap = w.heap → (Builtin.firstCells k.size len (.slice base len cap')).run P w1 = .ok old'.toArray w1)
 (hf : ∀ w1 : World, w1.heap = w.heap → (Builtin.firstCells k.size n (.slice xb n xc)).run P w1 = .ok new'.toArray w1)
 (hg : cap' < len + n) (hb : (len + n) * k.bytes ≤ 140737488355328) :
 C3d P lim β H w ((Builtin.append_ #[t, xt] ty #[.slice base len cap', .slice xb n xc]).run P w) (.slice (some ⟨H.next, 0, some k.size⟩) (len + n) (len + n)) (H.alloc (old ++ new)) := by
 have hr := B3d (ty := ty) ht hxt hd hi hz (hf w.drew rfl) (hfo w.drew rfl) hg hb0 hb; have hge := grownCap_ge w (len + n) cap' e; have hlo := hold.1; have hln := hnew.1; have hone : ∀ v ∈ zv.cells, True := fun _ _ => trivial
 have ha := (show WR lim β H w.drew from hw.drew).alloc (cs := old ++ new) (c := old'.toArray ++ new'.toArray ++ Builtin.zeroCells zv.cells (grownCap w (len + n) cap' e - (len + n))) (e := e)
  (by simp; omega) (by
   intro i v v' g1 g2; have hi2 : i < (old' ++ new').length := by
    have := (List.getElem?_eq_some_iff.1 g1).1; simp at this ⊢; omega
   have g2' : (old' ++ new')[i]? = some v' := by
    rw [← Array.getElem?_toList] at g2; simp only [Array.toList_append] at g2; rw [List.getElem?_append_left (by simpa using hi2)] at g2; simpa using g2
   exact ⟨(hold.append hnew).2 i v v' g1 g2', (ho1.append ho2) i v' g2'⟩)
 refine ⟨_, _, _, hr, ?_, ha.1, ha.2.drewL⟩; rw [hsz]; refine .slice (Inj.set_same _ _ _) (Nat.le_refl _) hge (.inr ⟨rfl, ?_⟩); simp only [Array.size_append, List.size_toArray, size_zeroCells, hzc, ← hlo, ← hln, hl1, hl2, hsz]; rw [← Nat.add_mul, ← Nat.add_mul]; have : len + n + (grownCap w (len + n) cap' e - (len + n)) = grownCap w (len + n) cap' e := by omega
 rw [this]; omega
theorem C7m {xt ty t e : TypeId} {k : TypeInfo} {zv : Value} {d : TypeDesc} (ht : P.underlying t = some (.slice e)) (hxt : P.underlying xt = some d) (hd : ∀ k, d ≠ .int k) (hi : P.info? e = some k) (hz : k.zero = some zv)
 (hs0 : k.size ≠ 0) (hzc : zv.cells.size = k.size) (hb0 : k.bytes ≠ 0) {s x s' x' v : Value} {H' : A1} (hw : WR lim β H w) (h : E4 lim H k.size k.bytes s x = some (v, H')) (hs : VR β s s') (hx : VR β x x') :
 C3d P lim β H w ((Builtin.append_ #[t, xt] ty #[s', x']).run P w) v H' := by
 obtain ⟨sz, hsz⟩ : ∃ sz, k.size = sz + 1 := ⟨k.size - 1, by omega⟩; unfold E4 at h; split at h
 ·rename_i base len cap xb n xc; obtain ⟨base', cap', rfl⟩ : ∃ b c, s' = .slice b len c := by cases hs <;> exact ⟨_, _, rfl⟩
  obtain ⟨xb', xc', rfl⟩ : ∃ b c, x' = .slice b n c := by cases hx <;> exact ⟨_, _, rfl⟩
  have hlc : len ≤ cap' := by cases hs <;> omega
  split at h
  ·rename_i hn; subst hn; cases h; have hf : (Builtin.firstCells k.size 0 (.slice xb' 0 xc')).run P w = .ok ([] : List Value).toArray w := by
    cases xb' <;> simp [Builtin.firstCells, loadCells, loadCellsFrom]
   have hr := i0 (ty := ty) (w' := w) (base := base') (sLen := len) (sCap := cap') ht hxt hd hi hf (by omega) (by cases base' <;> simp [storeCells]); exact ⟨_, w, β, hr, by simpa using hs, hw, Fr.refl _ _ _ _⟩
  ·rename_i hn; split at h
   ·cases h
   ·rename_i hxc; obtain ⟨new, hnew, h⟩ := Option.bind_eq_some_iff.1 h; obtain ⟨new', n1, n2, n3, n4⟩ := C2p (P := P) hw hnew hx (Nat.le_refl _) hs0; cases base with
    | none =>
      simp only at h; split at h
      ·rename_i hb; cases h; cases hs; have := A86 (P := P) (ty := ty) (len := 0) (cap' := 0) (base := none) (old := []) (old' := []) ht hxt hd hi hz hsz (by omega) hb0 hw (VRs.nil β) (by intro i v h; simp at h) (by simp) n1 n2 n3
        (fun w1 _ => by simp [Builtin.firstCells]) n4 (by omega) (by simpa using hb)
       simpa using this
      ·cases h
    | some ad =>
      obtain ⟨b, o, sp⟩ := ad; simp only at h; split at h
      ·rename_i hroom; split at h
       ·rename_i hlb; obtain ⟨cs, hcs, h⟩ := Option.bind_eq_some_iff.1 h; split at h
        ·rename_i hfit; cases h; have key : ∀ r q z, β b = some (r, q, z) → base' = some ⟨r, q + o, none⟩ → cap ≤ cap' → ∃ w', (Builtin.append_ #[t, xt] ty #[.slice base' len cap', .slice xb' n xc']).run P w = .ok (.slice base' (len + n) cap') w' ∧
          WR lim β (H.put b (F8 cs (o + len * k.size) new)) w' ∧ Fr lim H β w (H.put b (F8 cs (o + len * k.size) new)) β w' := by
          intro r q z hβ hb' hcc; obtain ⟨w', k1, k2, k3⟩ := B5l (P := P) (o := o + len * k.size) hw hlb hcs hβ (by rw [n3]; rw [Nat.add_mul] at hfit; omega) n1 n2; refine ⟨w', ?_, k2, k3⟩; refine i0 (ty := ty) ht hxt hd hi (n4 w rfl) (by omega) ?_; rw [hb']; simp only [Addr.add_none]; rw [Nat.add_assoc]; exact k1
         cases hs with
         | slice hβ hl hc ha =>
           rcases ha with ha | ⟨ha, ha2⟩
           ·omega
           ·obtain ⟨w', k1, k2, k3⟩ := key _ _ _ hβ (by rw [ha]) hc; exact ⟨_, w', β, k1, .slice hβ hroom hc (.inr ⟨ha, ha2⟩), k2, k3⟩
         | sliceX hβ hl ha =>
           rcases ha with ha | ha
           ·omega
           ·obtain ⟨w', k1, k2, k3⟩ := key _ _ _ hβ (by rw [ha]) (Nat.le_refl _); exact ⟨_, w', β, k1, .sliceX hβ hroom (.inr ha), k2, k3⟩
        ·cases h
       ·cases h
      ·rename_i hroom; split at h
       ·rename_i hb; obtain ⟨old, hold, h⟩ := Option.bind_eq_some_iff.1 h; obtain ⟨old', o1, o2, o3, o4⟩ := C2p (P := P) hw hold hs (Nat.le_refl _) hs0; split at h
        ·rename_i hsp; cases h; subst hsp; have hcc : cap' = cap := by cases hs; rfl
         exact A86 (ty := ty) ht hxt hd hi hz hsz (by omega) hb0 hw o1 o2 o3 n1 n2 n3 o4 n4 (by omega) hb
        ·split at h
         ·rename_i hsp2 hsp; obtain ⟨hsp, hlb⟩ := hsp; obtain ⟨cs, hcs, h⟩ := Option.bind_eq_some_iff.1 h; cases h; by_cases hroom' : len + n ≤ cap'
          ·-- the machine finds room
           subst hsp; rw [hsz] at hs; cases hs with
           | @slice _ _ r q z _ _ _ _ a' hβ hl hc ha =>
             rcases ha with ha | ⟨ha, ha2⟩
             ·omega
             ·subst ha; obtain ⟨r0, s0, z0, c, e0, fr, h1, h2, hzz, h3, h4, h5⟩ := hw.live b cs hcs; rw [hβ] at h1; cases h1; rw [h4 hlb] at h2; have hle : (len + n) * (sz + 1) ≤ cap' * (sz + 1) := Nat.mul_le_mul_right _ hroom'; have hnl := n1.1; have hol := o1.1; rw [hsz] at n3 o3; have hadd : (len + n) * (sz + 1) = len * (sz + 1) + n * (sz + 1) := Nat.add_mul _ _ _; obtain ⟨w', c', k1, k2, k3⟩ := A0r (P := P) (r := r) (s := q + o) new' (len * (sz + 1)) w c e0 h2 (by omega) n2; have hr := i0 (ty := ty) (base := some ⟨r, q + o, none⟩) (w' := w') ht hxt hd hi (n4 w rfl) hroom' (by
               simp only [Addr.add_none, hsz]; have hshift : ∀ (l : List Value) (i : Nat) (a : Nat), storeCells ⟨r, a, none⟩ l i = storeCells ⟨r, a + i, none⟩ l 0 := by
                intro l
                induction l with
                | nil => intro i a; rfl
                | cons x l ih =>
                  intro i a; simp only [storeCells, Addr.add_none, Nat.add_zero]
                  congr 1
                  funext _
                  rw [ih (i + 1) a, ih (0 + 1) (a + i)]
                  first | (congr 2; omega) | congr 2
               rw [← hshift]; exact k1)
              have hc' : c'.size = z := by
               have : c'.toList.length = c.toList.length := by rw [k3]; exact A12 (by simp; omega)
               simpa [hzz] using this
              have hm := hw.move (cs' := old ++ new) (s' := q + o) hlb hcs (by rw [hc']; exact hβ) k2 (by simp; omega) (by
               intro i v v' g1 g2; have g2' : c'.toList[q + o + i]? = some v' := by simpa using g2
               rw [k3, B6h (by simp; omega)] at g2'; by_cases hio : i < old.length
               ·rw [List.getElem?_append_left hio] at g1; rw [if_pos (by omega)] at g2'; have hlen0 : len ≠ 0 := by
                 intro h0; rw [h0] at o3; simp at o3; rw [o3] at hio; simp at hio
                simp only [A4j, if_neg hlen0] at hold; unfold P6 at hold; rw [hcs] at hold; simp only [Option.bind_some] at hold; split at hold
                ·cases hold; rw [List.getElem?_take] at g1; split at g1
                 ·rw [List.getElem?_drop] at g1; refine h5 _ _ _ g1 ?_; rw [← Nat.add_assoc]; simpa using g2'
                 ·cases g1
                ·cases hold
               ·rw [List.getElem?_append_right (by omega)] at g1; have hin : i - old.length < new.length := (List.getElem?_eq_some_iff.1 g1).1; rw [if_neg (by omega), if_pos (by omega)] at g2'; rw [show q + o + i - (q + o + len * (sz + 1)) = i - old.length from by omega] at g2'; exact ⟨n1.2 _ _ _ g1 g2', n2 _ _ g2'⟩)
              refine ⟨_, w', _, hr, ?_, hm.1, hm.2⟩; rw [hsz]; refine .slice (Inj.set_same _ _ _) (Nat.le_refl _) hroom' (.inr ⟨rfl, ?_⟩); rw [hc']; omega
          ·have hk := hw.kill hlb; have := A86 (ty := ty) ht hxt hd hi hz hsz (by omega) hb0 hk.1 o1 o2 o3 n1 n2 n3 o4 n4 (by omega) hb; obtain ⟨v', w', β', g1, g2, g3, g4⟩ := this; exact ⟨v', w', β', g1, g2, g3, hk.2.trans g4⟩
         ·cases h
       ·cases h
 ·cases h
theorem R3 {n : Int} (h : 0 ≤ n) (h2 : n ≤ 9223372036854775807) : IntKind.i64.wrap n = n := by
 rw [IntKind.wrap_i64]; omega
inductive EOp where
 | box (x : Opd)
 | alloc (zero : List Value)
 | bslice (len : Nat) (cells : List Value) (parts : List (Nat × Nat × Opd))
 | mkslice (bytes : Nat) (zero : List Value) (l c : Opd)
 | store (n : Nat) (a x : Opd)
 | append (sz bytes : Nat) (s x : Opd)
 | appendZ (sz bytes : Nat) (zero : List Value) (s x : Opd)
 | clear (zero : List Value) (x : Opd)
 | rd (p : POp)
def M5 (H : A1) (x : Value) : Option (Value × A1) := (C2 x).map fun cs => (.pointer (some ⟨H.next, 0, none⟩), H.alloc cs)
def E0 (H : A1) (len : Nat) (cells : List Value) (parts : List (Nat × Nat × Value)) : Option (Value × A1) :=
 (C9 cells parts).map fun cs => (.slice (some ⟨H.next, 0, some 0⟩) len len, H.alloc cs)
def A3l (H : A1) (bytes : Nat) (zero : List Value) : Value → Value → Option (Value × A1)
 | .int .i64 n, .int .i64 m => if 0 ≤ n ∧ n ≤ m ∧ m ≤ 140737488355328 ∧ m * bytes ≤ 140737488355328 then some (.slice (some ⟨H.next, 0, some 0⟩) n.toNat m.toNat, H.alloc (K3 m.toNat zero)) else none
 | _, _ => none
def C8 (lim : Nat) (H : A1) (n : Nat) (a x : Value) : Option (Value × A1) :=
 match a with
 | .pointer (some ⟨b, o, none⟩) => (C2 x).bind fun l => if l.length = n ∧ lim ≤ b then (H.blk b).bind fun cs => if o + l.length ≤ cs.length then some (undef, H.put b (F8 cs o l)) else none else none
 | _ => none
def A6b (H : A1) (sz bytes : Nat) (zero : List Value) : Value → Value → Option (Value × A1)
 | .slice none 0 0, .int .i64 n => if 1 ≤ n ∧ n ≤ 140737488355328 ∧ n * bytes ≤ 140737488355328 then some (.slice (some ⟨H.next, 0, some sz⟩) n.toNat n.toNat, H.alloc (K3 n.toNat zero)) else none
 | _, _ => none
def A87 (lim : Nat) (H : A1) (zero : List Value) : Value → Option (Value × A1)
 | .slice none _ _ => some (.tuple #[], H)
 | .slice (some ⟨b, o, _⟩) n _ => if n = 0 then some (.tuple #[], H) else if lim ≤ b then (H.blk b).bind fun cs => if o + n * zero.length ≤ cs.length then some (.tuple #[], H.put b (F8 cs o (K3 n zero))) else none else none
 | _ => none
def EOp.ev (lim : Nat) (H : A1) (e t : List Value) : EOp → Option (Value × A1)
 | .box x => M5 H (x.ev e t)
 | .alloc zero => some (.pointer (some ⟨H.next, 0, none⟩), H.alloc zero)
 | .bslice len cells parts => E0 H len cells (parts.map fun (o, n, x) => (o, n, x.ev e t))
 | .mkslice bytes zero l c => A3l H bytes zero (l.ev e t) (c.ev e t)
 | .store n a x => C8 lim H n (a.ev e t) (x.ev e t)
 | .append sz bytes s x => E4 lim H sz bytes (s.ev e t) (x.ev e t)
 | .appendZ sz bytes zero s x => A6b H sz bytes zero (s.ev e t) (x.ev e t)
 | .clear zero x => A87 lim H zero (x.ev e t)
 | .rd p => (p.ev H e t).map fun v => (v, H)
def trE (P : Program) (ren : Operand → Option Opd) : Op → Option EOp
 | .box _ x => (ren x).map .box
 | .alloc t => (P.info? t).bind fun k => k.zero.bind fun z => if (z.cells.all M0) = true then some (.alloc z.cells.toList) else none
 | .buildSlice t len parts =>
   match P.underlying t with
   | some (.slice e) => (P.info? e).bind fun k => k.zero.bind fun z =>
     if (z.cells.all M0) = true ∧ z.cells.size = k.size ∧ k.size ≠ 0 ∧ len * k.size ≤ 2 ^ 24 then
      (listPR ren k.size parts.toList).map fun l => .bslice len (K3 len z.cells.toList) l
     else none
   | _ => none
 | .makeSlice t l c =>
   match P.underlying t with
   | some (.slice e) => (P.info? e).bind fun k => k.zero.bind fun z =>
     if (z.cells.all M0) = true ∧ z.cells.size = k.size ∧ k.size ≠ 0 then (ren l).bind fun l => (ren c).map fun c => .mkslice k.bytes z.cells.toList l c
     else none
   | _ => none
 | .store t a x => (P.info? t).bind fun k => (ren a).bind fun a => (ren x).map fun x => .store k.size a x
 | .call c =>
   match c.callee, c.args.toList, c.argTypes.toList with
   | .builtin .append, [s, x], [t, xt] =>
     match P.underlying t, P.underlying xt with
     | some (.slice e), some (.slice _) => (P.info? e).bind fun k => k.zero.bind fun z =>
       if z.cells.size = k.size ∧ k.size ≠ 0 ∧ k.bytes ≠ 0 then (ren s).bind fun s => (ren x).map fun x => .append k.size k.bytes s x else none
     | some (.slice e), some (.int _) => (P.info? e).bind fun k => k.zero.bind fun z =>
       if (z.cells.all M0) = true ∧ z.cells.size = k.size ∧ k.size ≠ 0 ∧ k.bytes ≠ 0 then (ren s).bind fun s => (ren x).map fun x => .appendZ k.size k.bytes z.cells.toList s x else none
     | _, _ => none
   | .builtin .clear, [x], [t] =>
     match P.underlying t with
     | some (.slice e) => (P.info? e).bind fun k => k.zero.bind fun z =>
       if (z.cells.all M0) = true ∧ z.cells.size = k.size ∧ k.size ≠ 0 then (ren x).map fun x => .clear z.cells.toList x else none
     | _ => none
   | _, _, _ => none
 | _ => none
where
 listPR (ren : Operand → Option Opd) (sz : Nat) : List (Nat × Operand) → Option (List (Nat × Nat × Opd))
  | [] => some []
  | (i, x) :: l => (ren x).bind fun a => (listPR ren sz l).map fun as => (i * sz, sz, a) :: as
theorem B3j {ρ : Operand → Value} {ren : Operand → Option Opd} {e t : List Value} {sz : Nat} : ∀ {xs : List (Nat × Operand)} {l : List (Nat × Nat × Opd)}, trE.listPR ren sz xs = some l →
 (∀ z ∈ xs, ∀ a, ren z.2 = some a → VR β (a.ev e t) (ρ z.2)) → C1o β (fun i => some (i * sz, sz)) (l.map fun (o, n, x) => (o, n, x.ev e t)) (xs.map fun (i, x) => (i, ρ x))
 | [], l, h, _ => by cases h; trivial
 | (i, x) :: xs, l, h, hr => by
   simp only [trE.listPR] at h; obtain ⟨a, ha, h⟩ := Option.bind_eq_some_iff.1 h; obtain ⟨as, hs, h⟩ := Option.map_eq_some_iff.1 h; subst h; exact ⟨rfl, hr (i, x) (by simp) a ha, B3j hs fun z hz => hr z (by simp [hz])⟩
theorem A15 (n : Nat) (z : Array Value) (hz : z.size ≠ 0) : ((Array.range (n * z.size)).map (fun i => z[i % z.size]!)).toList = K3 n z.toList := by
 apply List.ext_getElem?; intro i; by_cases hi : i < n * z.size
 ·rw [C5q n z.toList i (by simpa using hi)]; simp only [Array.toList_map, List.getElem?_map, Array.toList_range]; have hm : i % z.size < z.size := Nat.mod_lt _ (by omega); simp [hi, hm]
 ·rw [List.getElem?_eq_none (by simp; omega), List.getElem?_eq_none (by rw [i9]; simpa using hi)]
theorem i8 {z : Value} (hc : (z.cells.all M0) = true) (n : Nat) : VRs β (K3 n z.cells.toList) (K3 n z.cells.toList) ∧ Z0 (K3 n z.cells.toList) := by
 obtain ⟨h1, h2⟩ := A9k (β := β) hc
 induction n with
 | zero => exact ⟨VRs.nil β, by intro i v h; simp [K3] at h⟩
 | succ n ih => exact ⟨h1.append ih.1, h2.append ih.2⟩
theorem A5j {cs : List Value} {c : Array Value} {e : TypeId} (hw : WR lim β H w) (hv : VRs β cs c.toList) (ho : Z0 c.toList) :
 WR lim (β.set H.next (w.heap.size, 0, c.size)) (H.alloc cs) (w.alloc (.cells c e)) ∧
 Fr lim H β w (H.alloc cs) (β.set H.next (w.heap.size, 0, c.size)) (w.alloc (.cells c e)) := by
 have hl := hv.1; refine hw.alloc (by simp at hl; omega) fun i v v' g1 g2 => ⟨hv.2 i v v' g1 (by simpa using g2), ho i v' (by simpa using g2)⟩
theorem B2y {t xt ty e : TypeId} {i : TypeInfo} {zv : Value} {ik : IntKind} (ht : P.underlying t = some (.slice e)) (hxt : P.underlying xt = some (.int ik)) (hi : P.info? e = some i) (hz : i.zero = some zv)
 {n : Nat} (hn : 1 ≤ n) (hs0 : i.size ≠ 0) (hb0 : i.bytes ≠ 0) (hm : n ≤ 140737488355328) (hb : n * i.bytes ≤ 140737488355328) :
 (Builtin.append_ #[t, xt] ty #[.slice none 0 0, .int .i64 n]).run P w =
  .ok (.slice (some ⟨w.heap.size, 0, none⟩) n (grownCap w n 0 e))
   (w.drew.alloc (.cells (Builtin.zeroCells zv.cells n ++ Builtin.zeroCells zv.cells (grownCap w n 0 e - n)) e)) := by
 have h48' : ¬ (281474976710656 < Builtin.nextslicecap n 0 * i.bytes) := by
  have := growslice_fits (need := n) (old := 0) (bytes := i.bytes) (by omega) hb; omega
 have hw1 : IntKind.i64.wrap (n : Int) = n := R3 (by omega) (by omega); have hl0 : ¬ ((n : Int) < 0) := by omega
 have hl1 : ¬ ((281474976710656 : Int) < n * i.bytes) := by
  have : ((n * i.bytes : Nat) : Int) ≤ ((140737488355328 : Nat) : Int) := Int.ofNat_le.2 hb; rw [Int.natCast_mul] at this; omega
 have hmx : ¬ (IntKind.i64.max < (n : Int)) := by
  have h2 : IntKind.i64.max = 9223372036854775807 := rfl; omega
 have hn0 : ¬ n = 0 := by omega
 have hmul : ¬ n * i.size = 0 := by
  intro h; rcases Nat.mul_eq_zero.1 h with h | h <;> omega
 have hmx' : ¬ (9223372036854775807 < (n : Int)) := by omega
 simp [Builtin.append_, C3 ht, C3 hxt, sizeOf, typeInfo, zeroValue, hi, hz, asInt, asIntOf, hw1, hl0, hl1, hn0, hmx, hb0, hs0, h48', Question.forced, newRow, grownCap, hmx', Builtin.firstCells, hmul]
theorem C5e {xt ty t e : TypeId} {k : TypeInfo} {zv : Value} {ik : IntKind} (ht : P.underlying t = some (.slice e)) (hxt : P.underlying xt = some (.int ik)) (hi : P.info? e = some k) (hz : k.zero = some zv)
 (hs0 : k.size ≠ 0) (hzc : zv.cells.size = k.size) (hb0 : k.bytes ≠ 0) (hcl : (zv.cells.all M0) = true) {s x s' x' v : Value} {H' : A1} (hw : WR lim β H w) (h : A6b H k.size k.bytes zv.cells.toList s x = some (v, H')) (hs : VR β s s') (hx : VR β x x') :
 C3d P lim β H w ((Builtin.append_ #[t, xt] ty #[s', x']).run P w) v H' := by
 unfold A6b at h; split at h
 ·rename_i n; split at h
  ·rename_i hn; cases h; obtain ⟨hn1, hn2, hn3⟩ := hn; have hs' : s' = .slice none 0 0 := by cases hs; rfl
   have hx' : x' = .int .i64 n := by cases hx; rfl
   subst hs' hx'; obtain ⟨m, rfl⟩ : ∃ m : Nat, n = m := ⟨n.toNat, by omega⟩; have hm : m * k.bytes ≤ 140737488355328 := by
    have : ((m * k.bytes : Nat) : Int) ≤ ((140737488355328 : Nat) : Int) := by rw [Int.natCast_mul]; exact hn3
    exact Int.ofNat_le.1 this
   have hr := B2y (w := w) (ty := ty) ht hxt hi hz (n := m) (by omega) hs0 hb0 (by omega) hm; have hge := grownCap_ge w m 0 e; obtain ⟨sz, hsz⟩ : ∃ sz, k.size = sz + 1 := ⟨k.size - 1, by omega⟩; have hzl : (Builtin.zeroCells zv.cells m).toList = K3 m zv.cells.toList := A15 m zv.cells (by omega); obtain ⟨z1, z2⟩ := i8 (β := β) hcl m; have ha := (show WR lim β H w.drew from hw.drew).alloc (cs := K3 m zv.cells.toList) (c := Builtin.zeroCells zv.cells m ++ Builtin.zeroCells zv.cells (grownCap w m 0 e - m)) (e := e)
    (by rw [← hzl]; simp) (by
     intro i v v' g1 g2; have hi2 : i < (K3 m zv.cells.toList).length := (List.getElem?_eq_some_iff.1 g1).1; have g2' : (K3 m zv.cells.toList)[i]? = some v' := by
      rw [← Array.getElem?_toList] at g2; simp only [Array.toList_append, hzl] at g2
      rwa [List.getElem?_append_left hi2] at g2
     exact ⟨z1.2 i v v' g1 g2', z2 i v' g2'⟩)
   simp only [Int.toNat_natCast]; refine ⟨_, _, _, hr, ?_, ha.1, ha.2.drewL⟩; rw [hsz]; refine .slice (Inj.set_same _ _ _) (Nat.le_refl _) hge (.inr ⟨rfl, ?_⟩); simp only [Array.size_append, size_zeroCells, hzc, hsz]; rw [← Nat.add_mul]; have : m + (grownCap w m 0 e - m) = grownCap w m 0 e := by omega
   rw [this]; omega
  ·cases h
 ·cases h
theorem D3f {ρ : Operand → Value} {ren : Operand → Option Opd} {e t : List Value} {o : Oper} {eo : EOp} {v : Value} {H' : A1}
 (h : trE P ren o.op = some eo) (hw : WR lim β H w) (hren : ∀ x ∈ o.op.operands, ∀ a, ren x = some a → VR β (a.ev e t) (ρ x)) (hv : eo.ev lim H e t = some (v, H')) :
 ∃ w' β', ((∃ v', (execOp ρ o).run P w = .ok (.value v') w' ∧ VR β' v v') ∨ ((execOp ρ o).run P w = .ok .skip w' ∧ VR β' v undef)) ∧ WR lim β' H' w' ∧ Fr lim H β w H' β' w' := by
 have fin : ∀ {s : Sem Value}, C3d P lim β H w (s.run P w) v H' → (execOp ρ o = do pure (Next.value (← s))) →
  ∃ w' β', ((∃ v', (execOp ρ o).run P w = .ok (.value v') w' ∧ VR β' v v') ∨ ((execOp ρ o).run P w = .ok .skip w' ∧ VR β' v undef)) ∧ WR lim β' H' w' ∧ Fr lim H β w H' β' w' := by
  intro s ⟨v', w', β', g1, g2, g3, g4⟩ hs; exact ⟨w', β', .inl ⟨v', by rw [hs]; simp [g1], g2⟩, g3, g4⟩
 cases hop : o.op <;> rw [hop] at h hren <;> simp only [trE] at h <;> try (cases h; done)
 case box bt x =>
  obtain ⟨x1, hx, rfl⟩ := Option.map_eq_some_iff.1 h; have hx' := hren x (by simp [Op.operands]) x1 hx; obtain ⟨cs, hcs, hv⟩ := Option.map_eq_some_iff.1 hv; cases hv; obtain ⟨k1, k2⟩ := B2f hcs hx'; obtain ⟨a1, a2⟩ := A5j (c := (ρ x).cells) (e := bt) hw k1 k2; refine fin (s := Instr.box bt (ρ x)) ⟨.pointer (some ⟨w.heap.size, 0, none⟩), _, _, by simp [Instr.box, newVar, newRow], .ptr (Inj.set_same _ _ _), a1, a2⟩ (by simp [execOp, hop])
 case alloc at0 =>
  obtain ⟨k, hk, h⟩ := Option.bind_eq_some_iff.1 h; obtain ⟨z, hz, h⟩ := Option.bind_eq_some_iff.1 h; split at h
  ·rename_i hc; cases h; cases hv; obtain ⟨k1, k2⟩ := A9k (β := β) hc; obtain ⟨a1, a2⟩ := A5j (c := z.cells) (e := at0) hw k1 k2; refine fin (s := Instr.alloc at0 true (.tuple #[])) ⟨.pointer (some ⟨w.heap.size, 0, none⟩), _, _, by simp [Instr.alloc, Q6 hk hz, newVar, newRow], .ptr (Inj.set_same _ _ _), a1, a2⟩ (by simp [execOp, hop])
  ·cases h
 case buildSlice st len parts =>
  split at h
  ·rename_i el hu; obtain ⟨k, hk, h⟩ := Option.bind_eq_some_iff.1 h; obtain ⟨z, hz, h⟩ := Option.bind_eq_some_iff.1 h; split at h
   ·rename_i hc; obtain ⟨hc1, hc2, hc3, hc4⟩ := hc; obtain ⟨l, hl, rfl⟩ := Option.map_eq_some_iff.1 h; obtain ⟨cs, hcs, hv⟩ := Option.map_eq_some_iff.1 hv; cases hv; obtain ⟨z1, z2⟩ := i8 (β := β) hc1 len; have hrz := A15 len z.cells (by omega); rw [hc2] at hrz; by_cases h0 : len * k.size = 0
    ·have hlen : len = 0 := by
      rcases Nat.mul_eq_zero.1 h0 with h | h
      ·exact h
      ·omega
     subst hlen; obtain ⟨r', q1, q2, q3⟩ := B05 (β := β) (place := fun i => some (i * k.size, k.size)) _ _ [] #[] cs (by simpa [K3] using hcs) (B3j hl (by intro x hx; exact hren x.2 (by simp [Op.operands]; exact ⟨x.1, by simpa using hx⟩))) (VRs.nil β) (by intro i v h; simp at h); obtain ⟨a1, a2⟩ := A5j (c := r') (e := el) hw q2 q3; refine fin (s := Instr.buildSlice st 0 (parts.map fun (i, x) => (i, ρ x))) ⟨.slice (some ⟨w.heap.size, 0, none⟩) 0 0, _, _, ?_, .sliceX (Inj.set_same _ _ _) (Nat.le_refl _) (.inl rfl), a1, a2⟩ (by simp [execOp, hop]); have q1' : Instr.fill (fun i => some (i * k.size, k.size)) (Array.map (fun x => default) (Array.range 0)) (List.map (fun x => (x.fst, ρ x.snd)) parts.toList) = some r' := by
      have e0 : (Array.map (fun x => (default : Value)) (Array.range 0)) = #[] := by simp
      rw [e0]; exact q1
     simp only [Instr.buildSlice, Sem.run_bind, C3 hu, Result.andThen_ok, I4 hk]; simp; rw [q1']; simp [newRow]
    ·obtain ⟨r', q1, q2, q3⟩ := B05 (β := β) (place := fun i => some (i * k.size, k.size)) _ _ (K3 len z.cells.toList) ((Array.range (len * k.size)).map (fun i => z.cells[i % z.cells.size]!)) cs hcs
      (B3j hl (by intro x hx; exact hren x.2 (by simp [Op.operands]; exact ⟨x.1, by simpa using hx⟩))) (by rw [hc2, hrz]; exact z1) (by rw [hc2, hrz]; exact z2)
     obtain ⟨a1, a2⟩ := A5j (c := r') (e := el) hw q2 q3; refine fin (s := Instr.buildSlice st len (parts.map fun (i, x) => (i, ρ x))) ⟨.slice (some ⟨w.heap.size, 0, none⟩) len len, _, _, ?_, .sliceX (Inj.set_same _ _ _) (Nat.le_refl _) (.inr rfl), a1, a2⟩ (by simp [execOp, hop]); have q1' : Instr.fill (fun i => some (i * k.size, k.size)) ((Array.range (len * k.size)).map (fun i => z.cells[i % z.cells.size]!)) (List.map (fun x => (x.fst, ρ x.snd)) parts.toList) = some r' := q1; have hbig : ¬ (len * k.size > 2 ^ 24) := by omega
     simp only [Instr.buildSlice, Sem.run_bind, C3 hu, Result.andThen_ok, I4 hk, if_neg h0, if_neg hbig, Q6 hk hz, Sem.run_pure, Array.toList_map]; rw [q1']; simp [newRow]
   ·cases h
  ·cases h
 case makeSlice st l c =>
  split at h
  ·rename_i el hu; obtain ⟨k, hk, h⟩ := Option.bind_eq_some_iff.1 h; obtain ⟨z, hz, h⟩ := Option.bind_eq_some_iff.1 h; split at h
   ·rename_i hc; obtain ⟨hc1, hc2, hc3⟩ := hc; obtain ⟨l1, hl, h⟩ := Option.bind_eq_some_iff.1 h; obtain ⟨c1, hcc, rfl⟩ := Option.map_eq_some_iff.1 h; have hl' := hren l (by simp [Op.operands]) l1 hl; have hc' := hren c (by simp [Op.operands]) c1 hcc; simp only [EOp.ev, M5, E0, A3l, C8, A87] at hv; split at hv
    ·rename_i n m he1 he2; rw [he1] at hl'; rw [he2] at hc'; split at hv
     ·rename_i hn; obtain ⟨hn1, hn2, hn3, hn4⟩ := hn; cases hv; obtain ⟨z1, z2⟩ := i8 (β := β) hc1 m.toNat; have hrz := A15 m.toNat z.cells (by omega); rw [hc2] at hrz; have w1 : IntKind.i64.wrap n = n := R3 hn1 (by omega); have w2 : IntKind.i64.wrap m = m := R3 (by omega) (by omega); have hb2 : (k.bytes : Int) * m ≤ 140737488355328 := by rw [Int.mul_comm]; exact hn4
      have hb1 : (k.bytes : Int) * n ≤ 140737488355328 := Int.le_trans (Int.mul_le_mul_of_nonneg_left hn2 (by omega)) hb2; have e1 : (decide (n < 0) || decide ((k.bytes : Int) * n > 2 ^ 48)) = false := by simp; omega
      have e2 : (decide (m < 0) || decide ((k.bytes : Int) * m > 2 ^ 48)) = false := by simp; omega
      have e3 : decide (n < 0) = false := by simp; omega
      have e4 : decide (n > m) = false := by simp; omega
      obtain ⟨a1, a2⟩ := A5j (c := (Array.range (m.toNat * k.size)).map (fun i => z.cells[i % z.cells.size]!)) (e := el) hw (by rw [hc2, hrz]; exact z1) (by rw [hc2, hrz]; exact z2); refine fin (s := Instr.makeSlice st (ρ l) (ρ c)) ⟨.slice (some ⟨w.heap.size, 0, none⟩) n.toNat m.toNat, _, _, ?_, .sliceX (Inj.set_same _ _ _) (by omega) (.inr rfl), a1, a2⟩ (by simp [execOp, hop]); rw [hl'.int_inv, hc'.int_inv]; simp only [Instr.makeSlice, Sem.run_bind, C3 hu, Result.andThen_ok, asInt, asIntOf, Sem.run_pure, A34 hk, w1, w2, e1, e2, e3, e4, Bool.or_false, Bool.false_eq_true, if_false, I4 hk]; by_cases h0 : m.toNat * k.size = 0
      ·have hm0 : m.toNat = 0 := by
        rcases Nat.mul_eq_zero.1 h0 with h | h
        ·exact h
        ·omega
       obtain rfl : m = 0 := by omega
       obtain rfl : n = 0 := by omega
       simp [askRoom, newRow]
       congr 2
       simp
      ·simp [h0, askRoom, newRow, mark, Sem.run, Q6 hk hz]
     ·cases hv
    ·cases hv
   ·cases h
  ·cases h
 case store st a x =>
  obtain ⟨k, hk, h⟩ := Option.bind_eq_some_iff.1 h; obtain ⟨a1, ha, h⟩ := Option.bind_eq_some_iff.1 h; obtain ⟨x1, hx, rfl⟩ := Option.map_eq_some_iff.1 h; have ha' := hren a (by simp [Op.operands]) a1 ha; have hx' := hren x (by simp [Op.operands]) x1 hx; simp only [EOp.ev, M5, E0, A3l, C8, A87] at hv; split at hv
  ·rename_i b off he; rw [he] at ha'; obtain ⟨l, hl, hv⟩ := Option.bind_eq_some_iff.1 hv; obtain ⟨k1, k2⟩ := B2f hl hx'; split at hv
   ·rename_i hn; obtain ⟨hn, hlb⟩ := hn; obtain ⟨cs, hcs, hv⟩ := Option.bind_eq_some_iff.1 hv; split at hv
    ·rename_i hfit; cases hv; obtain ⟨r, s, z, hβ, hρ⟩ : ∃ r s z, β b = some (r, s, z) ∧ ρ a = .pointer (some ⟨r, s + off, none⟩) := by
      generalize ρ a = q at ha'; cases ha' with
      | ptr hβ => exact ⟨_, _, _, hβ, rfl⟩
     obtain ⟨w', g1, g2, g3⟩ := B5l (P := P) hw hlb hcs hβ hfit k1 k2; refine ⟨w', β, .inr ⟨?_, VR.undef β⟩, g2, g3⟩; have hsz : (ρ x).cells.size = k.size := by
      have := k1.1; simp at this; omega
     simp [execOp, hop, Instr.storeAt, Instr.sureAddr, hρ, storeVar, I4 hk, hsz, g1]
    ·cases hv
   ·cases hv
  ·cases hv
 case call c =>
  obtain ⟨callee, args, argTypes⟩ := c; simp only at h; split at h
  ·rename_i s x st xt h1 h2; have ea : args = #[s, x] := by apply Array.ext'; simpa using h1
   have et : argTypes = #[st, xt] := by apply Array.ext'; simpa using h2
   subst ea et; have m1 : s ∈ (Op.call ⟨.builtin .append, #[s, x], #[st, xt]⟩).operands := by simp [Op.operands, Call.operands]
   have m2 : x ∈ (Op.call ⟨.builtin .append, #[s, x], #[st, xt]⟩).operands := by simp [Op.operands, Call.operands]
   split at h
   ·rename_i el el2 hu hu2; obtain ⟨k, hk, h⟩ := Option.bind_eq_some_iff.1 h; obtain ⟨z, hz, h⟩ := Option.bind_eq_some_iff.1 h; split at h
    ·rename_i hc; obtain ⟨hc2, hc3, hc4⟩ := hc; obtain ⟨s1, hs, h⟩ := Option.bind_eq_some_iff.1 h; obtain ⟨x1, hx, rfl⟩ := Option.map_eq_some_iff.1 h; exact fin (C7m (ty := o.type) hu hu2 (by intro k; simp) hk hz hc3 hc2 hc4 hw hv (hren s m1 s1 hs) (hren x m2 x1 hx)) (by simp [execOp, hop, resolve, invoke, builtin])
    ·cases h
   ·rename_i el ik hu hu2; obtain ⟨k, hk, h⟩ := Option.bind_eq_some_iff.1 h; obtain ⟨z, hz, h⟩ := Option.bind_eq_some_iff.1 h; split at h
    ·rename_i hc; obtain ⟨hc1, hc2, hc3, hc4⟩ := hc; obtain ⟨s1, hs, h⟩ := Option.bind_eq_some_iff.1 h; obtain ⟨x1, hx, rfl⟩ := Option.map_eq_some_iff.1 h; exact fin (C5e (ty := o.type) hu hu2 hk hz hc3 hc2 hc4 hc1 hw hv (hren s m1 s1 hs) (hren x m2 x1 hx)) (by simp [execOp, hop, resolve, invoke, builtin])
    ·cases h
   ·cases h
  ·rename_i x st h1 h2; have ea : args = #[x] := by apply Array.ext'; simpa using h1
   have et : argTypes = #[st] := by apply Array.ext'; simpa using h2
   subst ea et; have m1 : x ∈ (Op.call ⟨.builtin .clear, #[x], #[st]⟩).operands := by simp [Op.operands, Call.operands]
   split at h
   ·rename_i el hu; obtain ⟨k, hk, h⟩ := Option.bind_eq_some_iff.1 h; obtain ⟨z, hz, h⟩ := Option.bind_eq_some_iff.1 h; split at h
    ·rename_i hc; obtain ⟨hc1, hc2, hc3⟩ := hc; obtain ⟨x1, hx, rfl⟩ := Option.map_eq_some_iff.1 h; have hx' := hren x m1 x1 hx; refine fin (s := Builtin.clear_ #[st] o.type #[ρ x]) ?_ (by simp [execOp, hop, resolve, invoke, builtin]); have none_ok : ∀ (a' : Option Addr) (n c' : Nat), ρ x = .slice a' n c' → (n = 0 ∨ a' = none) → v = .tuple #[] → H' = H → C3d P lim β H w ((Builtin.clear_ #[st] o.type #[ρ x]).run P w) v H' := by
      intro a' n c' h1 h2 h3 h4; subst h3 h4; refine ⟨.tuple #[], w, β, ?_, VR.undef β, hw, Fr.refl _ _ _ _⟩; rw [h1]; rcases h2 with rfl | rfl
      ·cases a' <;> simp [Builtin.clear_, C3 hu]
      ·simp [Builtin.clear_, C3 hu]
     simp only [EOp.ev, M5, E0, A3l, C8, A87] at hv; split at hv
     ·rename_i n c' he; rw [he] at hx'; cases hv; generalize hq : ρ x = q at hx'; cases hx'; exact hq ▸ none_ok none 0 0 hq (.inl rfl) rfl rfl
     ·rename_i b off sp n c' he; rw [he] at hx'; split at hv
      ·rename_i hn; cases hv; subst hn; generalize hq : ρ x = q at hx'; cases hx' <;> exact hq ▸ none_ok _ 0 _ hq (.inl rfl) rfl rfl
      ·rename_i hn; split at hv
       ·rename_i hlb; obtain ⟨cs, hcs, hv⟩ := Option.bind_eq_some_iff.1 hv; split at hv
        ·rename_i hfit; cases hv; obtain ⟨r, s, zz, c'', hβ, hq⟩ : ∃ r s zz c'', β b = some (r, s, zz) ∧ ρ x = .slice (some ⟨r, s + off, none⟩) n c'' := by
          generalize ρ x = q at hx'; cases hx' with
          | slice hβ hl hc ha =>
            rcases ha with ha | ⟨ha, _⟩
            ·omega
            ·exact ⟨_, _, _, _, hβ, by rw [ha]⟩
          | sliceX hβ hl ha =>
            rcases ha with ha | ha
            ·omega
            ·exact ⟨_, _, _, _, hβ, by rw [ha]⟩
         obtain ⟨z1, z2⟩ := i8 (β := β) hc1 n; obtain ⟨w', g1, g2, g3⟩ := B5l (P := P) hw hlb hcs hβ (by rw [i9]; exact hfit) z1 z2; refine ⟨.tuple #[], w', β, ?_, VR.undef β, g2, g3⟩; rw [hq]; have hzc : (Builtin.zeroCells z.cells n).toList = K3 n z.cells.toList := A15 n z.cells (by omega); obtain ⟨n, rfl⟩ : ∃ m, n = m + 1 := ⟨n - 1, by omega⟩; simp [Builtin.clear_, C3 hu, Q6 hk hz, hzc, g1]
        ·cases hv
       ·cases hv
     ·cases hv
    ·cases h
   ·cases h
  ·cases h
end
end Go.Ab
