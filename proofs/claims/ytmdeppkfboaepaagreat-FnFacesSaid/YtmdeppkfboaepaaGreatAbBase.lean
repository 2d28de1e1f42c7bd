/- A part of the proof of a statement of this seat: the program logic; no condition. -/
import Derived.Deep.LoopGhost
import Derived.Laws.AppendOwn
import Derived.KernelRfl
import Derived.RowKit3
import Derived.Below
namespace Go.Ab
set_option linter.unusedVariables false
abbrev Inj := Nat → Option (Nat × Nat × Nat)
inductive VR (β : Inj) : Value → Value → Prop
 | junk (v : Value) : VR β (.chan (some 0)) v
 | bool (b : Bool) : VR β (.bool b) (.bool b)
 | int (k : IntKind) (n : Int) : VR β (.int k n) (.int k n)
 | float (k : FloatKind) (n : Nat) : VR β (.float k n) (.float k n)
 | string (s : ByteArray) : VR β (.string s) (.string s)
 | ptrNil : VR β (.pointer none) (.pointer none)
 | ptr {b o r s z : Nat} (h : β b = some (r, s, z)) : VR β (.pointer (some ⟨b, o, none⟩)) (.pointer (some ⟨r, s + o, none⟩))
 | sliceNil : VR β (.slice none 0 0) (.slice none 0 0)
 | slice {b o r s z k len cap cap' : Nat} {a' : Addr} (h : β b = some (r, s, z)) (hl : len ≤ cap) (hc : cap ≤ cap') (ha : cap' = 0 ∨ (a' = ⟨r, s + o, none⟩ ∧ s + o + cap' * (k + 1) ≤ z)) :
  VR β (.slice (some ⟨b, o, some (k + 1)⟩) len cap) (.slice (some a') len cap')
 | sliceX {b o r s z len cap : Nat} {a' : Addr} (h : β b = some (r, s, z)) (hl : len ≤ cap) (ha : cap = 0 ∨ a' = ⟨r, s + o, none⟩) :
  VR β (.slice (some ⟨b, o, some 0⟩) len cap) (.slice (some a') len cap)
 | agg {cs cs' : Array Value} (hs : cs.size = cs'.size) (h : ∀ (i : Nat) (v v' : Value), cs[i]? = some v → cs'[i]? = some v' → VR β v v')
  (ho : ∀ (i : Nat) (v' : Value), cs'[i]? = some v' → v'.oneCell' = true) : VR β (.agg cs) (.agg cs')
 | tuple {cs cs' : Array Value} (hs : cs.size = cs'.size) (h : ∀ (i : Nat) (v v' : Value), cs[i]? = some v → cs'[i]? = some v' → VR β v v') : VR β (.tuple cs) (.tuple cs')
 | func {fn : Fn} {cs cs' : Array Value} (hs : cs.size = cs'.size) (h : ∀ (i : Nat) (v v' : Value), cs[i]? = some v → cs'[i]? = some v' → VR β v v') : VR β (.func fn #[] cs) (.func fn #[] cs')
 | nilFunc : VR β .nilFunc .nilFunc
 | nilIface : VR β .nilIface .nilIface
 | iface {t : TypeId} {v v' : Value} (h : VR β v v') : VR β (.iface t v) (.iface t v')
def Le (β β' : Inj) : Prop := ∀ (b : Nat) p, β b = some p → β' b = some p
theorem Le.refl (β : Inj) : Le β β := fun _ _ h => h
theorem Le.trans {β γ δ : Inj} (h : Le β γ) (k : Le γ δ) : Le β δ := fun b p e => k b p (h b p e)
theorem VR.mono {β β' : Inj} (hle : Le β β') {v v' : Value} (h : VR β v v') : VR β' v v' := by
 induction h with
 | junk v => exact .junk v
 | bool b => exact .bool b
 | int k n => exact .int k n
 | float k n => exact .float k n
 | string s => exact .string s
 | ptrNil => exact .ptrNil
 | ptr h => exact .ptr (hle _ _ h)
 | sliceNil => exact .sliceNil
 | slice h hl hc ha => exact .slice (hle _ _ h) hl hc ha
 | sliceX h hl ha => exact .sliceX (hle _ _ h) hl ha
 | agg hs _ ho ih => exact .agg hs ih ho
 | tuple hs _ ih => exact .tuple hs ih
 | func hs _ ih => exact .func hs ih
 | nilFunc => exact .nilFunc
 | nilIface => exact .nilIface
 | iface _ ih => exact .iface ih
theorem VR.undef (β : Inj) : VR β Go.undef Go.undef := .tuple rfl (by intro i v v' h; simp at h)
def VC (β : Inj) (v v' : Value) : Prop := VR β v v' ∧ v'.oneCell' = true
theorem VC.mono {β β' : Inj} (hle : Le β β') {v v' : Value} (h : VC β v v') : VC β' v v' := ⟨h.1.mono hle, h.2⟩
def VRs (β : Inj) (l l' : List Value) : Prop := l.length = l'.length ∧ ∀ (i : Nat) (v v' : Value), l[i]? = some v → l'[i]? = some v' → VR β v v'
theorem VRs.mono {β β' : Inj} (hle : Le β β') {l l' : List Value} (h : VRs β l l') : VRs β' l l' := ⟨h.1, fun i v v' a b => (h.2 i v v' a b).mono hle⟩
theorem VRs.nil (β : Inj) : VRs β [] [] := ⟨rfl, by intro i v v' h; simp at h⟩
theorem VRs.cons {β : Inj} {v v' : Value} {l l' : List Value} (h : VR β v v') (hl : VRs β l l') : VRs β (v :: l) (v' :: l') := by
 refine ⟨by simp [hl.1], fun i a a' h1 h2 => ?_⟩; cases i with
 | zero => simp at h1 h2; subst h1 h2; exact h
 | succ i => simp at h1 h2; exact hl.2 i a a' h1 h2
theorem VRs.of_cons {β : Inj} {v v' : Value} {l l' : List Value} (h : VRs β (v :: l) (v' :: l')) : VR β v v' ∧ VRs β l l' :=
 ⟨h.2 0 v v' rfl rfl, by simpa using h.1, fun i a a' h1 h2 => h.2 (i + 1) a a' (by simpa using h1) (by simpa using h2)⟩
theorem VRs.append {β : Inj} {l l' m m' : List Value} (h : VRs β l l') (k : VRs β m m') : VRs β (l ++ m) (l' ++ m') := by
 refine ⟨by simp [h.1, k.1], fun i a a' h1 h2 => ?_⟩; by_cases hi : i < l.length
 ·rw [List.getElem?_append_left hi] at h1; rw [List.getElem?_append_left (by have := h.1; omega)] at h2; exact h.2 i a a' h1 h2
 ·rw [List.getElem?_append_right (by omega)] at h1; rw [List.getElem?_append_right (by have := h.1; omega), ← h.1] at h2; exact k.2 _ a a' h1 h2
theorem VRs.get {β : Inj} {l l' : List Value} (h : VRs β l l') (i : Nat) {v : Value} (hv : l[i]? = some v) : ∃ v', l'[i]? = some v' ∧ VR β v v' := by
 have hi : i < l'.length := by rw [← h.1]; exact (List.getElem?_eq_some_iff.1 hv).1
 exact ⟨l'[i], by simp [hi], h.2 i v _ hv (by simp [hi])⟩
theorem Below.heap_alloc' (w : World) (o : Obj) (k : Nat) (h : k < w.heap.size) : (w.alloc o).heap[k]? = w.heap[k]? := by
 show (w.heap.push o)[k]? = _; rw [Array.getElem?_push, if_neg (by omega)]
structure A1 where
 blk : Nat → Option (List Value)
 next : Nat
def A1.cell (H : A1) (b o : Nat) : Option Value := (H.blk b).bind (·[o]?)
def A1.alloc (H : A1) (cs : List Value) : A1 := { blk := fun b => if b = H.next then some cs else H.blk b, next := H.next + 1 }
def A1.put (H : A1) (b : Nat) (cs : List Value) : A1 := { H with blk := fun b' => if b' = b then some cs else H.blk b' }
def A1.kill (H : A1) (b : Nat) : A1 := { H with blk := fun b' => if b' = b then none else H.blk b' }
structure WR (lim : Nat) (β : Inj) (H : A1) (w : World) : Prop where
 bnd : lim ≤ H.next
 dom : ∀ b, H.next ≤ b → β b = none
 live : ∀ b cs, H.blk b = some cs → ∃ r s z c e fr, β b = some (r, s, z) ∧ w.heap[r]? = some (.cells c e fr) ∧ c.size = z ∧ s + cs.length ≤ z ∧
  (lim ≤ b → fr = (0, 0)) ∧ ∀ (i : Nat) (v v' : Value), cs[i]? = some v → c[s + i]? = some v' → VC β v v'
 inj : ∀ b b' cs cs' r s s', lim ≤ b → H.blk b = some cs → H.blk b' = some cs' → β b = some (r, s) → β b' = some (r, s') → b = b'
theorem WR.img {lim : Nat} {β : Inj} {H : A1} {w : World} (h : WR lim β H w) {b r : Nat} {cs : List Value} {s : Nat × Nat} (hb : H.blk b = some cs) (hβ : β b = some (r, s)) : r < w.heap.size := by
 obtain ⟨r', s', z, c, e, fr, h1, h2, _⟩ := h.live b cs hb; rw [hβ] at h1; cases h1; exact (Array.getElem?_eq_some_iff.1 h2).1
structure Fr (lim : Nat) (H : A1) (β : Inj) (w : World) (H' : A1) (β' : Inj) (w' : World) : Prop where
 le : Le β β'
 next : H.next ≤ H'.next
 os : w'.os = w.os
 tape : w'.tape = w.tape
 output : w'.output = w.output
 size : w.heap.size ≤ w'.heap.size
 block : ∀ r, r < w.heap.size → (∀ b cs s, lim ≤ b → H.blk b = some cs → β b ≠ some (r, s)) → w'.heap[r]? = w.heap[r]?
 img : ∀ b cs r s, lim ≤ b → H'.blk b = some cs → β' b = some (r, s) → w.heap.size ≤ r ∨ ∃ b0 cs0 s0, lim ≤ b0 ∧ H.blk b0 = some cs0 ∧ β b0 = some (r, s0)
 low : ∀ b, b < lim → H'.blk b = H.blk b
theorem Fr.refl (lim : Nat) (H : A1) (β : Inj) (w : World) : Fr lim H β w H β w :=
 ⟨Le.refl _, Nat.le_refl _, rfl, rfl, rfl, Nat.le_refl _, fun _ _ _ => rfl, fun b cs r s hl hb h => .inr ⟨b, cs, s, hl, hb, h⟩, fun _ _ => rfl⟩
theorem Fr.trans {lim : Nat} {H H1 H2 : A1} {β β1 β2 : Inj} {w w1 w2 : World} (h : Fr lim H β w H1 β1 w1) (k : Fr lim H1 β1 w1 H2 β2 w2) : Fr lim H β w H2 β2 w2 where
 le := h.le.trans k.le
 next := Nat.le_trans h.next k.next
 os := k.os.trans h.os
 tape := k.tape.trans h.tape
 output := k.output.trans h.output
 size := Nat.le_trans h.size k.size
 block := fun r hr hn => by
  rw [k.block r (Nat.lt_of_lt_of_le hr h.size) ?_, h.block r hr hn]; intro b cs s hl hb he; rcases h.img b cs r s hl hb he with h1 | ⟨b0, cs0, s0, h1, h2, h3⟩
  ·omega
  ·exact hn b0 cs0 s0 h1 h2 h3
 img := fun b cs r s hl hb he => by
  rcases k.img b cs r s hl hb he with h1 | ⟨b0, cs0, s0, h1, h2, h3⟩
  ·exact .inl (Nat.le_trans h.size h1)
  ·exact h.img b0 cs0 r s0 h1 h2 h3
 low := fun b hb => (k.low b hb).trans (h.low b hb)
theorem Fr.weaken {lim lim' : Nat} {H H' : A1} {β β' : Inj} {w w' : World} (hl : lim ≤ lim') (hw : WR lim β H w) (h : Fr lim' H β w H' β' w') : Fr lim H β w H' β' w' where
 le := h.le
 next := h.next
 os := h.os
 tape := h.tape
 output := h.output
 size := h.size
 block := fun r hr hn => h.block r hr fun b cs s hb => hn b cs s (Nat.le_trans hl hb)
 img := fun b cs r s hb hc he => by
  by_cases hb' : lim' ≤ b
  ·rcases h.img b cs r s hb' hc he with h1 | ⟨b0, cs0, s0, h1, h2, h3⟩
   ·exact .inl h1
   ·exact .inr ⟨b0, cs0, s0, Nat.le_trans hl h1, h2, h3⟩
  ·rw [h.low b (by omega)] at hc; obtain ⟨r0, s0, _, _, _, _, hβ, _⟩ := hw.live b cs hc; have := h.le b _ hβ; rw [he] at this; cases this; exact .inr ⟨b, cs, _, hb, hc, hβ⟩
 low := fun b hb => h.low b (by omega)
theorem WR.weaken {lim : Nat} {H H' : A1} {β β' : Inj} {w w' : World} (hw : WR lim β H w) (h : Fr H.next H β w H' β' w')
 (hw' : WR H.next β' H' w') : WR lim β' H' w' where
 bnd := Nat.le_trans hw.bnd hw'.bnd
 dom := hw'.dom
 live := fun b cs hb => by
  obtain ⟨r, s, z, c, e, fr, h1, h2, hz, h3, h4, h5⟩ := hw'.live b cs hb; refine ⟨r, s, z, c, e, fr, h1, h2, hz, h3, fun hl => ?_, h5⟩; by_cases hn : H.next ≤ b
  ·exact h4 hn
  ·rw [h.low b (by omega)] at hb; obtain ⟨r0, s0, z0, c0, e0, fr0, k1, k2, kz, k3, k4, k5⟩ := hw.live b cs hb; have := h.le b _ k1; rw [h1] at this; cases this; have hr : r < w.heap.size := hw.img hb k1; rw [h.block r hr ?_, k2] at h2
   ·cases h2; exact k4 hl
   ·intro b1 cs1 s1 g1 g2 g3; rw [hw.dom b1 g1] at g3; cases g3
 inj := fun b b' cs cs' r s s' hl hb hb' he he' => by
  by_cases hn : H.next ≤ b
  ·exact hw'.inj b b' cs cs' r s s' hn hb hb' he he'
  ·by_cases hn' : H.next ≤ b'
   ·exact (hw'.inj b' b cs' cs r s' s hn' hb' hb he' he).symm
   ·rw [h.low b (by omega)] at hb; rw [h.low b' (by omega)] at hb'; obtain ⟨r0, s0, _, _, _, _, k1, _⟩ := hw.live b cs hb; obtain ⟨r1, s1, _, _, _, _, k2, _⟩ := hw.live b' cs' hb'; have e1 := h.le b _ k1; have e2 := h.le b' _ k2; rw [he] at e1; rw [he'] at e2; cases e1; cases e2; exact hw.inj b b' cs cs' r _ _ hl hb hb' k1 k2
theorem WR.raise {lim lim' : Nat} {H : A1} {β : Inj} {w : World} (hw : WR lim β H w) (hl : lim ≤ lim') (hn : lim' ≤ H.next) : WR lim' β H w where
 bnd := hn
 dom := hw.dom
 live := fun b cs hb => by
  obtain ⟨r, s, z, c, e, fr, h1, h2, hz, h3, h4, h5⟩ := hw.live b cs hb; exact ⟨r, s, z, c, e, fr, h1, h2, hz, h3, fun h => h4 (Nat.le_trans hl h), h5⟩
 inj := fun b b' cs cs' r s s' h => hw.inj b b' cs cs' r s s' (Nat.le_trans hl h)
theorem WR.lt {lim : Nat} {β : Inj} {H : A1} {w : World} (h : WR lim β H w) {b : Nat} {cs : List Value} (hb : H.blk b = some cs) : b < H.next := by
 obtain ⟨r, s, _, _, _, _, h1, _⟩ := h.live b cs hb; rcases Nat.lt_or_ge b H.next with h2 | h2
 ·exact h2
 ·rw [h.dom b h2] at h1; cases h1
theorem WR.cell {lim : Nat} {β : Inj} {H : A1} {w : World} (h : WR lim β H w) {b o : Nat} {v : Value} (hc : H.cell b o = some v) {r s z : Nat} (hβ : β b = some (r, s, z)) :
 ∃ v', w.cell? ⟨r, s + o, none⟩ = some v' ∧ VC β v v' := by
 unfold A1.cell at hc; cases hb : H.blk b with
 | none => rw [hb] at hc; cases hc
 | some cs =>
   rw [hb] at hc; simp only [Option.bind_some] at hc; obtain ⟨r0, s0, z0, c, e, fr, h1, h2, hz, h3, h4, h5⟩ := h.live b cs hb; rw [hβ] at h1; cases h1; have ho : o < cs.length := (List.getElem?_eq_some_iff.1 hc).1; have hlt : s + o < c.size := by omega
   refine ⟨c[s + o], ?_, h5 o v _ hc (by simp [hlt])⟩; simp only [World.cell?, h2]; simp [hlt]
theorem WR.drew {lim : Nat} {β : Inj} {H : A1} {w : World} (h : WR lim β H w) : WR lim β H { w with drawn := w.drawn + 1 } :=
 ⟨h.bnd, h.dom, h.live, h.inj⟩
theorem Fr.drew (lim : Nat) (H : A1) (β : Inj) (w : World) : Fr lim H β w H β { w with drawn := w.drawn + 1 } :=
 ⟨Le.refl _, Nat.le_refl _, rfl, rfl, rfl, Nat.le_refl _, fun _ _ _ => rfl, fun b cs r s hl hb h => .inr ⟨b, cs, s, hl, hb, h⟩, fun _ _ => rfl⟩
def Inj.set (β : Inj) (b : Nat) (p : Nat × Nat × Nat) : Inj := fun b' => if b' = b then some p else β b'
theorem Inj.set_same (β : Inj) (b : Nat) (p : Nat × Nat × Nat) : β.set b p b = some p := by simp [Inj.set]
theorem Inj.set_ne (β : Inj) {b b' : Nat} (p : Nat × Nat × Nat) (h : b' ≠ b) : β.set b p b' = β b' := by simp [Inj.set, h]
theorem Inj.le_set {β : Inj} {b : Nat} {p : Nat × Nat × Nat} (h : β b = none) : Le β (β.set b p) := fun b' q e => by
 by_cases hb : b' = b
 ·subst hb; rw [h] at e; cases e
 ·rw [Inj.set_ne _ _ hb]; exact e
theorem WR.alloc {lim : Nat} {β : Inj} {H : A1} {w : World} (h : WR lim β H w) {cs : List Value} {c : Array Value} {e : TypeId}
 (hs : cs.length ≤ c.size) (hv : ∀ (i : Nat) (v v' : Value), cs[i]? = some v → c[i]? = some v' → VC β v v') :
 WR lim (β.set H.next (w.heap.size, 0, c.size)) (H.alloc cs) (w.alloc (.cells c e)) ∧
 Fr lim H β w (H.alloc cs) (β.set H.next (w.heap.size, 0, c.size)) (w.alloc (.cells c e)) := by
 have hnone : β H.next = none := h.dom _ (Nat.le_refl _); have hle : Le β (β.set H.next (w.heap.size, 0, c.size)) := Inj.le_set hnone; have hold : ∀ r, r < w.heap.size → (w.alloc (.cells c e)).heap[r]? = w.heap[r]? := fun r hr => Below.heap_alloc' w _ r hr
 refine ⟨⟨?_, ?_, ?_, ?_⟩, ⟨hle, ?_, rfl, rfl, rfl, ?_, ?_, ?_, ?_⟩⟩
 ·exact Nat.le_trans h.bnd (Nat.le_succ _)
 ·intro b hb; have : H.next + 1 ≤ b := hb; rw [Inj.set_ne _ _ (by omega)]; exact h.dom b (by omega)
 ·intro b cs' hb; by_cases hbn : b = H.next
  ·subst hbn; have : cs' = cs := by simpa [A1.alloc] using hb.symm
   subst this; refine ⟨w.heap.size, 0, c.size, c, e, (0, 0), Inj.set_same _ _ _, ?_, rfl, by omega, fun _ => rfl, fun i v v' h1 h2 => (hv i v v' h1 (by simpa using h2)).mono hle⟩; show (w.heap.push _)[w.heap.size]? = _; simp
  ·have hb' : H.blk b = some cs' := by simpa [A1.alloc, hbn] using hb
   obtain ⟨r, s, z, c', e', fr, h1, h2, hz, h3, h4, h5⟩ := h.live b cs' hb'; exact ⟨r, s, z, c', e', fr, hle _ _ h1, by rw [hold r (h.img hb' h1)]; exact h2, hz, h3, h4, fun i v v' g1 g2 => (h5 i v v' g1 g2).mono hle⟩
 ·intro b b' cs1 cs2 r s s' hl hb hb' he he'; by_cases hbn : b = H.next
  ·by_cases hbn' : b' = H.next
   ·rw [hbn, hbn']
   ·subst hbn; rw [Inj.set_same] at he; cases he; rw [Inj.set_ne _ _ hbn'] at he'; have := h.img (cs := cs2) (by simpa [A1.alloc, hbn'] using hb') he'; omega
  ·by_cases hbn' : b' = H.next
   ·subst hbn'; rw [Inj.set_same] at he'; cases he'; rw [Inj.set_ne _ _ hbn] at he; have := h.img (cs := cs1) (by simpa [A1.alloc, hbn] using hb) he; omega
   ·rw [Inj.set_ne _ _ hbn] at he; rw [Inj.set_ne _ _ hbn'] at he'; exact h.inj b b' cs1 cs2 r s s' hl (by simpa [A1.alloc, hbn] using hb) (by simpa [A1.alloc, hbn'] using hb') he he'
 ·exact Nat.le_succ _
 ·show w.heap.size ≤ (w.heap.push _).size; simp
 ·intro r hr _; exact hold r hr
 ·intro b cs' r s hl hb he; by_cases hbn : b = H.next
  ·subst hbn; rw [Inj.set_same] at he; cases he; exact .inl (Nat.le_refl _)
  ·rw [Inj.set_ne _ _ hbn] at he; exact .inr ⟨b, cs', s, hl, by simpa [A1.alloc, hbn] using hb, he⟩
 ·intro b hb; have : b ≠ H.next := by have := h.bnd; omega
  simp [A1.alloc, this]
structure A2v (w w' : World) (r : Nat) (c' : Array Value) : Prop where
 os : w'.os = w.os
 tape : w'.tape = w.tape
 output : w'.output = w.output
 size : w'.heap.size = w.heap.size
 here : ∃ e, w'.heap[r]? = some (.cells c' e (0, 0))
 else_ : ∀ r', r' ≠ r → w'.heap[r']? = w.heap[r']?
theorem WR.write {lim : Nat} {β : Inj} {H : A1} {w w' : World} (h : WR lim β H w) {b r s : Nat} {cs cs' : List Value} {c' : Array Value}
 (hl : lim ≤ b) (hb : H.blk b = some cs) (hβ : β b = some (r, s, c'.size)) (hw : A2v w w' r c') (hs : s + cs'.length ≤ c'.size)
 (hv : ∀ (i : Nat) (v v' : Value), cs'[i]? = some v → c'[s + i]? = some v' → VC β v v') :
 WR lim β (H.put b cs') w' ∧ Fr lim H β w (H.put b cs') β w' := by
 obtain ⟨e, he⟩ := hw.here; refine ⟨⟨h.bnd, h.dom, ?_, ?_⟩, ⟨Le.refl _, Nat.le_refl _, hw.os, hw.tape, hw.output, by rw [hw.size]; exact Nat.le_refl _, ?_, ?_, ?_⟩⟩
 ·intro b1 cs1 h1; by_cases hbb : b1 = b
  ·subst hbb; have : cs1 = cs' := by simpa [A1.put] using h1.symm
   subst this; exact ⟨r, s, c'.size, c', e, (0, 0), hβ, he, rfl, hs, fun _ => rfl, hv⟩
  ·have h1' : H.blk b1 = some cs1 := by simpa [A1.put, hbb] using h1
   obtain ⟨r1, s1, z1, c1, e1, fr1, k1, k2, kz, k3, k4, k5⟩ := h.live b1 cs1 h1'; have hne : r1 ≠ r := fun hr => by
    subst hr; exact hbb (h.inj b b1 cs cs1 r1 _ _ hl hb h1' hβ k1).symm
   exact ⟨r1, s1, z1, c1, e1, fr1, k1, by rw [hw.else_ r1 hne]; exact k2, kz, k3, k4, k5⟩
 ·intro b1 b2 cs1 cs2 r1 s1 s2 g1 g2 g3 g4 g5; have f1 : ∃ cs1', H.blk b1 = some cs1' := by
   by_cases hbb : b1 = b
   ·exact ⟨cs, hbb ▸ hb⟩
   ·exact ⟨cs1, by simpa [A1.put, hbb] using g2⟩
  have f2 : ∃ cs2', H.blk b2 = some cs2' := by
   by_cases hbb : b2 = b
   ·exact ⟨cs, hbb ▸ hb⟩
   ·exact ⟨cs2, by simpa [A1.put, hbb] using g3⟩
  obtain ⟨_, f1⟩ := f1; obtain ⟨_, f2⟩ := f2; exact h.inj b1 b2 _ _ r1 s1 s2 g1 f1 f2 g4 g5
 ·intro r1 hr1 hn; exact hw.else_ r1 fun hr => hn b cs _ hl hb (hr ▸ hβ)
 ·intro b1 cs1 r1 s1 g1 g2 g3; by_cases hbb : b1 = b
  ·exact .inr ⟨b, cs, s1, hl, hb, hbb ▸ g3⟩
  ·exact .inr ⟨b1, cs1, s1, g1, by simpa [A1.put, hbb] using g2, g3⟩
 ·intro b1 hb1; have : b1 ≠ b := by omega
  simp [A1.put, this]
theorem WR.kill {lim : Nat} {β : Inj} {H : A1} {w : World} (h : WR lim β H w) {b : Nat} (hl : lim ≤ b) :
 WR lim β (H.kill b) w ∧ Fr lim H β w (H.kill b) β w := by
 have hk : ∀ b1 cs1, (H.kill b).blk b1 = some cs1 → b1 ≠ b ∧ H.blk b1 = some cs1 := by
  intro b1 cs1 g; by_cases hbb : b1 = b
  ·subst hbb; simp [A1.kill] at g
  ·exact ⟨hbb, by simpa [A1.kill, hbb] using g⟩
 refine ⟨⟨h.bnd, h.dom, fun b1 cs1 g => h.live b1 cs1 (hk _ _ g).2, fun b1 b2 cs1 cs2 r s s' g1 g2 g3 => h.inj b1 b2 cs1 cs2 r s s' g1 (hk _ _ g2).2 (hk _ _ g3).2⟩,
  ⟨Le.refl _, Nat.le_refl _, rfl, rfl, rfl, Nat.le_refl _, fun _ _ _ => rfl, fun b1 cs1 r s g1 g2 g3 => .inr ⟨b1, cs1, s, g1, (hk _ _ g2).2, g3⟩, ?_⟩⟩
 intro b1 hb1; have : b1 ≠ b := by omega
 simp [A1.kill, this]
theorem WR.move {lim : Nat} {β : Inj} {H : A1} {w w' : World} (h : WR lim β H w) {b r s s' : Nat} {cs cs' : List Value} {c' : Array Value}
 (hl : lim ≤ b) (hb : H.blk b = some cs) (hβ : β b = some (r, s, c'.size)) (hw : A2v w w' r c') (hs : s' + cs'.length ≤ c'.size)
 (hv : ∀ (i : Nat) (v v' : Value), cs'[i]? = some v → c'[s' + i]? = some v' → VC β v v') :
 WR lim (β.set H.next (r, s', c'.size)) ((H.kill b).alloc cs') w' ∧ Fr lim H β w ((H.kill b).alloc cs') (β.set H.next (r, s', c'.size)) w' := by
 obtain ⟨e, he⟩ := hw.here; have hnone : β H.next = none := h.dom _ (Nat.le_refl _); have hle : Le β (β.set H.next (r, s', c'.size)) := Inj.le_set hnone; have hk : ∀ b1 cs1, b1 ≠ H.next → ((H.kill b).alloc cs').blk b1 = some cs1 → b1 ≠ b ∧ H.blk b1 = some cs1 := by
  intro b1 cs1 hn g; have g' : (H.kill b).blk b1 = some cs1 := by
   simp only [A1.alloc] at g; rw [if_neg (by exact hn)] at g; exact g
  by_cases hbb : b1 = b
  ·subst hbb; simp [A1.kill] at g'
  ·exact ⟨hbb, by simpa [A1.kill, hbb] using g'⟩
 have hnew : ∀ cs1, ((H.kill b).alloc cs').blk H.next = some cs1 → cs1 = cs' := by
  intro cs1 g; have : (H.kill b).next = H.next := rfl; simpa [A1.alloc, this] using g.symm
 have hother : ∀ b1 cs1 s1, b1 ≠ b → H.blk b1 = some cs1 → β b1 ≠ some (r, s1) := by
  intro b1 cs1 s1 hne hb1 hβ1; exact hne (h.inj b b1 cs cs1 r _ s1 hl hb hb1 hβ hβ1).symm
 refine ⟨⟨Nat.le_trans h.bnd (Nat.le_succ _), ?_, ?_, ?_⟩, ⟨hle, Nat.le_succ _, hw.os, hw.tape, hw.output, by rw [hw.size]; exact Nat.le_refl _, ?_, ?_, ?_⟩⟩
 ·intro b1 hb1; have : H.next + 1 ≤ b1 := hb1; rw [Inj.set_ne _ _ (by omega)]; exact h.dom b1 (by omega)
 ·intro b1 cs1 g; by_cases hn : b1 = H.next
  ·subst hn; cases hnew _ g; exact ⟨r, s', c'.size, c', e, (0, 0), Inj.set_same _ _ _, he, rfl, hs, fun _ => rfl, fun i v v' h1 h2 => (hv i v v' h1 h2).mono hle⟩
  ·obtain ⟨g1, g2⟩ := hk b1 cs1 hn g; obtain ⟨r1, s1, z1, c1, e1, fr1, k1, k2, kz, k3, k4, k5⟩ := h.live b1 cs1 g2; have hne : r1 ≠ r := fun hr => hother b1 cs1 _ g1 g2 (hr ▸ k1)
   exact ⟨r1, s1, z1, c1, e1, fr1, hle _ _ k1, by rw [hw.else_ r1 hne]; exact k2, kz, k3, k4, fun i v v' h1 h2 => (k5 i v v' h1 h2).mono hle⟩
 ·intro b1 b2 cs1 cs2 r1 s1 s2 g1 g2 g3 g4 g5; by_cases hn1 : b1 = H.next
  ·by_cases hn2 : b2 = H.next
   ·rw [hn1, hn2]
   ·subst hn1; rw [Inj.set_same] at g4; cases g4; rw [Inj.set_ne _ _ hn2] at g5; obtain ⟨k1, k2⟩ := hk b2 cs2 hn2 g3; exact absurd g5 (hother b2 cs2 s2 k1 k2)
  ·rw [Inj.set_ne _ _ hn1] at g4; obtain ⟨k1, k2⟩ := hk b1 cs1 hn1 g2; by_cases hn2 : b2 = H.next
   ·subst hn2; rw [Inj.set_same] at g5; cases g5; exact absurd g4 (hother b1 cs1 s1 k1 k2)
   ·rw [Inj.set_ne _ _ hn2] at g5; obtain ⟨k3, k4⟩ := hk b2 cs2 hn2 g3; exact h.inj b1 b2 cs1 cs2 r1 s1 s2 g1 k2 k4 g4 g5
 ·intro r1 hr1 hn; exact hw.else_ r1 fun hr => hn b cs _ hl hb (hr ▸ hβ)
 ·intro b1 cs1 r1 s1 g1 g2 g3; by_cases hn : b1 = H.next
  ·subst hn; rw [Inj.set_same] at g3; cases g3; exact .inr ⟨b, cs, _, hl, hb, hβ⟩
  ·rw [Inj.set_ne _ _ hn] at g3; exact .inr ⟨b1, cs1, s1, g1, (hk b1 cs1 hn g2).2, g3⟩
 ·intro b1 hb1; have h1 : b1 ≠ H.next := by have := h.bnd; omega
  have h2 : b1 ≠ b := by omega
  have h3 : (H.kill b).next = H.next := rfl; simp [A1.alloc, A1.kill, h1, h2]
end Go.Ab
