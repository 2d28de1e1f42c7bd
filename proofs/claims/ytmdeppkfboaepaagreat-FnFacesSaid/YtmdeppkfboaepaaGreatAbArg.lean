/- A part of the proof of a statement of this seat: the program logic; no condition. -/
import Derived.Test.YtmdeppkfboaepaaGreatAbMore
import Derived.OpenShut
import Derived.WideShapes
import Derived.Deep.Slices
import Derived.SizedLaws
namespace Go.Ab
set_option linter.unusedVariables false
set_option linter.unusedSimpArgs false
theorem WR.see {β : Inj} {H : A1} {w : World} (h : WR H.next β H w) {cs : List Value} {r s : Nat} {c : Array Value} {e : TypeId} {fr : Nat × Nat} (hr : w.heap[r]? = some (.cells c e fr)) (hs : s + cs.length ≤ c.size)
 (hv : ∀ (i : Nat) (v v' : Value), cs[i]? = some v → c[s + i]? = some v' → VC β v v') :
 WR (H.alloc cs).next (β.set H.next (r, s, c.size)) (H.alloc cs) w ∧ Le β (β.set H.next (r, s, c.size)) := by
 have hle : Le β (β.set H.next (r, s, c.size)) := Inj.le_set (h.dom _ (Nat.le_refl _)); refine ⟨⟨Nat.le_refl _, ?_, ?_, ?_⟩, hle⟩
 ·intro b hb; rw [I5] at hb; rw [Inj.set_ne _ _ (by omega)]; exact h.dom b (by omega)
 ·intro b cs' hb; by_cases hbn : b = H.next
  ·subst hbn; rw [A6] at hb; cases hb; refine ⟨r, s, c.size, c, e, fr, Inj.set_same _ _ _, hr, rfl, hs, fun hl => ?_, fun i v v' h1 h2 => (hv i v v' h1 h2).mono hle⟩; rw [I5] at hl; omega
  ·have hb' : H.blk b = some cs' := by simpa [A1.alloc, hbn] using hb
   obtain ⟨r1, s1, z, c', e', fr', h1, h2, hz, h3, h4, h5⟩ := h.live b cs' hb'; refine ⟨r1, s1, z, c', e', fr', hle _ _ h1, h2, hz, h3, fun hl => ?_, fun i v v' g1 g2 => (h5 i v v' g1 g2).mono hle⟩; have := h.lt hb'; rw [I5] at hl; omega
 ·intro b b' cs1 cs2 r s s' hl hb; have : b < (H.alloc cs).next := by
   by_cases hbn : b = H.next
   ·rw [I5]; omega
   ·have hb' : H.blk b = some cs1 := by simpa [A1.alloc, hbn] using hb
    have := h.lt hb'; rw [I5]; omega
  omega
def A1.skip (H : A1) : A1 := { H with next := H.next + 1 }
theorem WR.skip {β : Inj} {H : A1} {w : World} (h : WR H.next β H w) (r s z : Nat) : WR H.skip.next (β.set H.next (r, s, z)) H.skip w ∧ Le β (β.set H.next (r, s, z)) := by
 have hle : Le β (β.set H.next (r, s, z)) := Inj.le_set (h.dom _ (Nat.le_refl _)); refine ⟨⟨Nat.le_refl _, ?_, ?_, ?_⟩, hle⟩
 ·intro b hb; have hb' : H.next + 1 ≤ b := hb; rw [Inj.set_ne _ _ (by omega)]; exact h.dom b (by omega)
 ·intro b cs' hb; have hb' : H.blk b = some cs' := hb; obtain ⟨r1, s1, z, c', e', fr', h1, h2, hz, h3, h4, h5⟩ := h.live b cs' hb'; refine ⟨r1, s1, z, c', e', fr', hle _ _ h1, h2, hz, h3, fun hl => ?_, fun i v v' g1 g2 => (h5 i v v' g1 g2).mono hle⟩; have := h.lt hb'; have hl' : H.next + 1 ≤ b := hl; omega
 ·intro b b' cs1 cs2 r s s' hl hb; have hb' : H.blk b = some cs1 := hb; have := h.lt hb'; have hl' : H.next + 1 ≤ b := hl; omega
theorem WR.none (w : World) : WR 0 (fun _ => Option.none) ⟨fun _ => Option.none, 0⟩ w :=
 ⟨Nat.le_refl _, fun _ _ => rfl, (by intro b cs h; cases h), (by intro b b' cs cs' r s s' _ h; cases h)⟩
def B3n (P : Program) : Nat → List Field → Option Nat
 | o, [] => some o
 | o, f :: l => if f.offset = o then B3n P (o + P.cellsOf f.type) l else none
def okT (P : Program) : Nat → TypeId → Bool
 | 0, _ => false
 | n + 1, t => match P.underlying t with
   | some .bool => true
   | some (.int _) => true
   | some .string => true
   | some (.slice e) => okT P n e && decide (P.cellsOf e ≠ 0)
   | some (.struct fs) => fs.toList.all (fun f => okT P n f.type) && decide (B3n P 0 fs.toList = some (P.cellsOf t))
   | _ => false
def Shp (P : Program) (H : A1) : Nat → TypeId → List Value → Prop
 | 0, _, _ => False
 | n + 1, t, cs => match P.underlying t with
   | some .bool => ∃ b, cs = [.bool b]
   | some (.int k) => ∃ x, cs = [.int k x] ∧ (Lit.int k x).wf = true
   | some .string => ∃ s, cs = [.string s] ∧ s.size ≤ reachBytes
   | some (.slice e) => cs = [.slice none 0 0] ∨ ∃ b len cap, cs = [.slice (some ⟨b, 0, some 0⟩) len cap] ∧ b < H.next ∧ len ≤ cap ∧ cap * P.bytesOf e ≤ reachBytes ∧
    (cap = 0 ∨ ∃ cells, H.blk b = some cells ∧ cells.length = cap * P.cellsOf e ∧ ∀ i, i < cap → Shp P H n e ((cells.drop (i * P.cellsOf e)).take (P.cellsOf e)))
   | some (.struct fs) => cs.length = P.cellsOf t ∧ ∀ f ∈ fs.toList, Shp P H n f.type ((cs.drop f.offset).take (P.cellsOf f.type))
   | _ => False
theorem Shp.ext {P : Program} {H H' : A1} (hx : Ext H H') : ∀ (n : Nat) (t : TypeId) (cs : List Value), Shp P H n t cs → Shp P H' n t cs
 | 0, _, _, h => h
 | n + 1, t, cs, h => by
   unfold Shp at h ⊢; split at h
   ·exact h
   ·exact h
   ·exact h
   ·rcases h with h | ⟨b, len, cap, h1, h2, h3, h4, h5⟩
    ·exact .inl h
    ·refine .inr ⟨b, len, cap, h1, Nat.lt_of_lt_of_le h2 hx.next, h3, h4, ?_⟩; rcases h5 with h5 | ⟨cells, g1, g2, g3⟩
     ·exact .inl h5
     ·exact .inr ⟨cells, by rw [hx.blk b h2]; exact g1, g2, fun i hi => Shp.ext hx n _ _ (g3 i hi)⟩
   ·exact ⟨h.1, fun f hf => Shp.ext hx n _ _ (h.2 f hf)⟩
   ·exact h
def D2c (l : List Value) : Prop := ∀ v ∈ l, v.oneCell' = true
structure Gr (w : World) (H : A1) (β : Inj) (H' : A1) (β' : Inj) : Prop where
 wr : WR H'.next β' H' w
 le : Le β β'
 ext : Ext H H'
theorem Gr.refl {w : World} {H : A1} {β : Inj} (h : WR H.next β H w) : Gr w H β H β := ⟨h, Le.refl _, Ext.refl _⟩
theorem Gr.trans {w : World} {H H1 H2 : A1} {β β1 β2 : Inj} (h : Gr w H β H1 β1) (k : Gr w H1 β1 H2 β2) : Gr w H β H2 β2 := ⟨k.wr, h.le.trans k.le, h.ext.trans k.ext⟩
section
open Go.Deep Go.ChangeShapes Go.WideShapes Go.RowKit
variable {T : Type} {enc : TypeId × Value → T} {P : Program} {w : World} {base : Nat} {held : Bool}
theorem A6h {a : Addr} {n : Nat} {cs : List Value} {c : Array Value} {e : TypeId} {fr : Nat × Nat} (hr : w.heap[a.block]? = some (.cells c e fr)) (k : Nat) (h : w.cells? base (a.add k) n = some cs) :
 ∀ i v, cs[i]? = some v → c[a.off + k + i]? = some v := by
 obtain ⟨h1, h2, h3⟩ := World.cells?_some h; intro i v hv; have hi : i < n := by rw [← h2]; exact (List.getElem?_eq_some_iff.1 hv).1
 have h4 := h3 i hi; rw [hv] at h4; have hs := World.cell?_spot h4; rw [add_add] at h4 hs; unfold World.cell? at h4; have e1 : (a.add (k + i)).block = a.block := by unfold Addr.add; split <;> rfl
 have e2 : (a.add (k + i)).off = a.off + k + i := by
  unfold Addr.add; split
  ·rename_i h0; show a.off = _; omega
  ·show a.off + (k + i) = _; omega
 rw [e1, hr] at h4; simp only [hs, Option.isSome_none, Bool.false_eq_true, if_false] at h4; rw [e2] at h4; exact h4
theorem A0t {e : TypeId} {d : DataW T} {q : Nat} (hq : q ∈ d.weights P e) : ∀ {l : List (DataW T)}, d ∈ l → q ∈ DataW.weightsAll P e l
 | [], h => by simp at h
 | x :: l, h => by
   simp only [DataW.weightsAll, List.mem_append]; rcases List.mem_cons.1 h with rfl | h
   ·exact .inl hq
   ·exact .inr (A0t hq h)
theorem C06 : ∀ (n fuel : Nat) (t : TypeId) (cs : List Value) (x : DataW T × List MemPlace) (H : A1) (β : Inj), okT P n t = true → DataW.trod enc P w base (fun _ => true) held fuel t cs = some x → (∀ q ∈ x.1.weights P t, q ≤ reachBytes) → WR H.next β H w →
 ∃ acs H' β', Gr w H β H' β' ∧ VRs β' acs cs ∧ D2c cs ∧ Shp P H' n t acs
 | 0, _, _, _, _, _, _, hok, _, _, _ => by simp [okT] at hok
 | n + 1, fuel, t, cs, x, H, β, hok, h, hwt, hw => by
   unfold okT at hok; unfold Shp; split at hok
   ·rename_i ht; obtain ⟨b, rfl, _⟩ := DataW.trod_bool ht h; exact ⟨[.bool b], H, β, Gr.refl hw, VRs.cons (.bool b) (VRs.nil _), (by intro v hv; simp at hv; subst hv; rfl), by exact ⟨b, rfl⟩⟩
   ·rename_i k ht; obtain ⟨q, rfl, _, hq⟩ := DataW.trod_int ht h; exact ⟨[.int k q], H, β, Gr.refl hw, VRs.cons (.int k q) (VRs.nil _), (by intro v hv; simp at hv; subst hv; rfl), by exact ⟨q, rfl, hq⟩⟩
   ·rename_i ht; obtain ⟨q, rfl, hxq, hq⟩ := DataW.trod_string ht h; have hq : q.size ≤ reachBytes := by
     have := hwt q.data.toList.length (by rw [hxq]; simp [DataW.weights]); simpa using this
    exact ⟨[.string q], H, β, Gr.refl hw, VRs.cons (.string q) (VRs.nil _), (by intro v hv; simp at hv; subst hv; rfl), by exact ⟨q, rfl, hq⟩⟩
   ·rename_i e ht; simp only [Bool.and_eq_true, decide_eq_true_eq] at hok; obtain ⟨hoke, hsz⟩ := hok; rcases open_slice ht h with ⟨rfl, _⟩ | ⟨a, len, cap, m, n', D, Pl, rfl, hb, hl, hm0, hmc, hxs, hel⟩
    ·exact ⟨[.slice none 0 0], H, β, Gr.refl hw, VRs.cons .sliceNil (VRs.nil _), (by intro v hv; simp at hv; subst hv; rfl), by exact .inl rfl⟩
    ·simp only [if_true] at hmc; subst hmc; have hm : m * P.bytesOf e ≤ reachBytes := by
      have := hwt ((len + (m - len)) * P.bytesOf e) (by rw [hxs]; simp [DataW.weights, ht])
      rwa [show len + (m - len) = m by omega] at this
     have hwe : ∀ i, i < m → ∀ q ∈ (D i).weights P e, q ≤ reachBytes := by
      intro i hi q hq; refine hwt q ?_; rw [hxs]; simp only [DataW.weights, ht]; refine List.mem_cons_of_mem _ (List.mem_append.2 ?_); by_cases hil : i < len
      ·exact .inl (A0t hq (List.mem_map.2 ⟨i, List.mem_range.2 hil, rfl⟩))
      ·exact .inr (A0t hq (List.mem_map.2 ⟨i - len, List.mem_range.2 (by omega), by rw [show len + (i - len) = i by omega]⟩))
     by_cases hc0 : m = 0
     ·subst hc0; obtain ⟨hw', hle⟩ := hw.skip 0 0 0; refine ⟨[.slice (some ⟨H.next, 0, some 0⟩) len 0], H.skip, β.set H.next (0, 0, 0), ⟨hw', hle, ⟨Nat.le_succ _, fun b hb => rfl⟩⟩, VRs.cons (.sliceX (Inj.set_same _ _ _) hl (.inl rfl)) (VRs.nil _), (by intro v hv; simp at hv; subst hv; rfl), ?_⟩; exact .inr ⟨H.next, len, 0, rfl, Nat.lt_succ_self _, hl, hm, .inl rfl⟩
     ·obtain ⟨c0, h0, _⟩ := hel 0 (by omega); obtain ⟨_, g2, g3⟩ := World.cells?_some h0; have hlt : 0 < c0.length := by omega
      have hcell := g3 0 (by omega); rw [List.getElem?_eq_getElem hlt] at hcell; have hspot := World.cell?_spot hcell; simp only [Nat.zero_mul] at hcell hspot; have ha0 : (a.add 0).add 0 = a := by simp [Addr.add]
      rw [ha0] at hcell hspot; obtain ⟨r, o, sp⟩ := a; simp only at hspot; subst hspot; have hr : ∃ c e fr, w.heap[r]? = some (.cells c e fr) := by
       unfold World.cell? at hcell; split at hcell
       ·exact ⟨_, _, _, by assumption⟩
       ·cases hcell
      obtain ⟨c, e', fr, hr⟩ := hr; have key : ∀ k, k ≤ m → ∃ (acs : List Value) (H' : A1) (β' : Inj), Gr w H β H' β' ∧ acs.length = k * P.cellsOf e ∧ (∀ (i : Nat) (v v' : Value), acs[i]? = some v → c[o + i]? = some v' → VC β' v v') ∧ o + acs.length ≤ c.size ∧
       ∀ i, i < k → Shp P H' n e ((acs.drop (i * P.cellsOf e)).take (P.cellsOf e)) := by
       intro k
       induction k with
       | zero =>
         intro _; refine ⟨[], H, β, Gr.refl hw, by simp, (by intro i v v' h; simp at h), ?_, (by intro i hi; omega)⟩; have h5 := A6h (a := ⟨r, o, none⟩) hr (0 * P.cellsOf e) h0 0 c0[0] (by simp [hlt]); have := (Array.getElem?_eq_some_iff.1 h5).1; simp only at this ⊢; simp; omega
       | succ k ih =>
         intro hk; obtain ⟨acs, H1, β1, hg, hlen, hvc, hbd, hsh⟩ := ih (by omega); obtain ⟨ecs, k1, k2⟩ := hel k (by omega); obtain ⟨eacs, H2, β2, hg2, hvr, hone, hshe⟩ := C06 n n' e ecs _ H1 β1 hoke k2 (hwe k (by omega)) hg.wr; have hel2 : ecs.length = P.cellsOf e := (World.cells?_some k1).2.1; have hcb := A6h (a := ⟨r, o, none⟩) hr (k * P.cellsOf e) k1; simp only at hcb; have hlast := hcb (P.cellsOf e - 1) (ecs[P.cellsOf e - 1]'(by omega)) (by rw [List.getElem?_eq_getElem]); have hlast' := (Array.getElem?_eq_some_iff.1 hlast).1; have hmul : (k + 1) * P.cellsOf e = k * P.cellsOf e + P.cellsOf e := by rw [Nat.add_mul, Nat.one_mul]
         have heal : eacs.length = P.cellsOf e := by rw [hvr.1, hel2]
         refine ⟨acs ++ eacs, H2, β2, hg.trans hg2, by rw [List.length_append, hlen, heal, hmul], ?_, by rw [List.length_append, hlen, heal]; omega, ?_⟩
         ·intro i v v' h1 h2; by_cases hi : i < acs.length
          ·rw [List.getElem?_append_left hi] at h1; exact (hvc i v v' h1 h2).mono hg2.le
          ·rw [List.getElem?_append_right (by omega)] at h1; obtain ⟨v2, h3, h4⟩ := hvr.get _ h1; have h5 := hcb _ _ h3; have : o + k * P.cellsOf e + (i - acs.length) = o + i := by omega
           rw [this, h2] at h5; cases h5; exact ⟨h4, hone _ (List.mem_of_getElem? h3)⟩
         ·intro i hi; by_cases hik : i < k
          ·have e1 : (i + 1) * P.cellsOf e ≤ k * P.cellsOf e := Nat.mul_le_mul_right _ (by omega); rw [Nat.add_mul, Nat.one_mul] at e1; rw [List.drop_append_of_le_length (by omega), List.take_append_of_le_length (by rw [List.length_drop]; omega)]; exact (hsh i hik).ext hg2.ext
          ·have : i = k := by omega
           subst this; rw [List.drop_append, hlen, Nat.sub_self, List.drop_zero, List.drop_of_length_le (by omega), List.nil_append, List.take_of_length_le (by omega)]; exact hshe
      obtain ⟨acs, H1, β1, hg, hlen, hvc, hbd, hsh⟩ := key m (Nat.le_refl _); obtain ⟨hw2, hle2⟩ := hg.wr.see hr hbd hvc; refine ⟨[.slice (some ⟨H1.next, 0, some 0⟩) len m], H1.alloc acs, β1.set H1.next (r, o, c.size), hg.trans ⟨hw2, hle2, Ext.alloc _ _⟩, VRs.cons (.sliceX (Inj.set_same _ _ _) hl (.inr (by simp))) (VRs.nil _), (by intro v hv; simp at hv; subst hv; rfl), ?_⟩; exact .inr ⟨H1.next, len, m, rfl, Nat.lt_succ_self _, hl, hm, .inr ⟨acs, A6 _ _, hlen, fun i hi => (hsh i hi).ext (Ext.alloc _ _)⟩⟩
   ·rename_i fs ht; simp only [Bool.and_eq_true, decide_eq_true_eq] at hok; obtain ⟨hoke, htile⟩ := hok; obtain ⟨xs, n', _, hxs, hcl, hxl, hf⟩ := DataW.trod_struct ht h; have hf' : ∀ f ∈ fs.toList, ∃ x, DataW.trod enc P w base (fun _ => true) held n' f.type ((cs.drop f.offset).take (P.cellsOf f.type)) = some x ∧ ∀ q ∈ x.1.weights P f.type, q ≤ reachBytes := by
     intro f hmem; obtain ⟨i, hi, rfl⟩ := List.mem_iff_getElem.1 hmem; have hi' : i < fs.size := by simpa using hi
     have := hf i fs[i] (by simp [hi']); simp only [Array.getElem_toList]; rw [this]; refine ⟨xs[i], by rw [List.getElem?_eq_getElem], fun q hq => hwt q ?_⟩; rw [hxs]; simp only [DataW.weights, ht]; exact DataW.weights_mem_each (j := i) (t := fs[i].type) (d := xs[i].1) (by simp [hi']) (by rw [List.getElem?_map, List.getElem?_eq_getElem (by omega)]; rfl) q hq
    have hoke' : ∀ f ∈ fs.toList, okT P n f.type = true := fun f hmem => List.all_eq_true.1 hoke f hmem
    have key : ∀ (l : List Field) (o : Nat) (acs : List Value) (H1 : A1) (β1 : Inj), (∀ f ∈ l, f ∈ fs.toList) → B3n P o l = some (P.cellsOf t) → Gr w H β H1 β1 → VRs β1 acs (cs.take o) → o ≤ cs.length → acs.length = o →
     (∀ v ∈ cs.take o, v.oneCell' = true) → ∃ acs2 H2 β2, Gr w H1 β1 H2 β2 ∧ VRs β2 (acs ++ acs2) cs ∧ D2c cs ∧ ∀ f ∈ l, Shp P H2 n f.type (((acs ++ acs2).drop f.offset).take (P.cellsOf f.type)) := by
     intro l
     induction l with
     | nil =>
       intro o acs H1 β1 _ ht hg hv ho hal hone; simp only [B3n, Option.some.injEq] at ht; rw [List.take_of_length_le (by omega)] at hv hone; exact ⟨[], H1, β1, Gr.refl hg.wr, by simpa using hv, hone, by simp⟩
     | cons f l ih =>
       intro o acs H1 β1 hmem ht hg hv ho hal hone; simp only [B3n] at ht; split at ht
       ·rename_i hoff; obtain ⟨y, hy, hyw⟩ := hf' f (hmem f (by simp)); obtain ⟨facs, H2, β2, hg2, hvr, hone2, hshe⟩ := C06 n n' f.type _ _ H1 β1 (hoke' f (hmem f (by simp))) hy hyw hg.wr; have hle : o + P.cellsOf f.type ≤ cs.length := by
         have : ∀ (l : List Field) (o m : Nat), B3n P o l = some m → o ≤ m := by
          intro l
          induction l with
          | nil => intro o m h; simp [B3n] at h; omega
          | cons f l ih =>
            intro o m h; simp only [B3n] at h; split at h
            ·have := ih _ _ h; omega
            ·cases h
         have := this _ _ _ ht; omega
        rw [hoff] at hvr hone2; have hfl : facs.length = P.cellsOf f.type := by rw [hvr.1]; simp; omega
        have htk : cs.take (o + P.cellsOf f.type) = cs.take o ++ (cs.drop o).take (P.cellsOf f.type) := List.take_add; obtain ⟨acs2, H3, β3, hg3, hv3, hone3, hsh3⟩ := ih (o + P.cellsOf f.type) (acs ++ facs) H2 β2 (fun g hg => hmem g (by simp [hg])) ht (hg.trans hg2) (by rw [htk]; exact (hv.mono hg2.le).append hvr) hle (by simp [hal, hfl])
         (by rw [htk]; intro v hv; rcases List.mem_append.1 hv with h | h; exact hone v h; exact hone2 v h)
        refine ⟨facs ++ acs2, H3, β3, hg2.trans hg3, by rw [← List.append_assoc]; exact hv3, hone3, ?_⟩; intro g hgm; rcases List.mem_cons.1 hgm with rfl | hgm
        ·rw [List.drop_append, hoff, hal, Nat.sub_self, List.drop_zero, List.drop_of_length_le (by omega), List.nil_append, List.take_append_of_le_length (by omega), List.take_of_length_le (by omega)]; exact hshe.ext hg3.ext
        ·rw [← List.append_assoc]; exact hsh3 g hgm
       ·cases ht
    obtain ⟨acs2, H2, β2, hg2, hv2, hone2, hsh2⟩ := key fs.toList 0 [] H β (fun f h => h) htile (Gr.refl hw) (by simpa using VRs.nil β) (Nat.zero_le _) rfl (by simp); refine ⟨acs2, H2, β2, hg2, by simpa using hv2, hone2, ?_⟩; exact ⟨by have := hv2.1; simp at this; omega, by simpa using hsh2⟩
   ·cases hok
def B30 (P : Program) (H : A1) (n : Nat) (t : TypeId) (v : Value) : Prop :=
 match P.underlying t with
 | some (.struct _) => ∃ cs : List Value, v = .agg cs.toArray ∧ Shp P H n t cs
 | _ => Shp P H n t [v]
theorem B30.ext {H H' : A1} (hx : Ext H H') {n : Nat} {t : TypeId} {v : Value} (h : B30 P H n t v) : B30 P H' n t v := by
 unfold B30 at h ⊢; split at h
 ·obtain ⟨cs, h1, h2⟩ := h; exact ⟨cs, h1, h2.ext hx⟩
 ·exact h.ext hx
def B6u (P : Program) (H : A1) (n : Nat) : List TypeId → List Value → Prop
 | [], [] => True
 | t :: ts, v :: vs => B30 P H n t v ∧ B6u P H n ts vs
 | _, _ => False
theorem D2t {n : Nat} {t : TypeId} {v : Value} {d : DataW T} {ps : List MemPlace} {b0 : Nat} {H : A1} {β : Inj} (hok : okT P n t = true) (h : DataW.Trod enc P w base (fun _ => true) held t v d ps) (hwt : ∀ q ∈ d.weights P t, q ≤ reachBytes)
 (hval : Value.okWide P w .any b0 t v) (hw : WR H.next β H w) : ∃ av H' β', Gr w H β H' β' ∧ VR β' av v ∧ B30 P H' n t av := by
 obtain ⟨fuel, hf⟩ := h; obtain ⟨acs, H', β', h1, h2, h3, h4⟩ := C06 n fuel t _ _ H β hok hf hwt hw; cases n with
 | zero => simp [okT] at hok
 | succ n =>
   by_cases hs : ∃ fs, P.underlying t = some (.struct fs)
   ·obtain ⟨fs, hs⟩ := hs; simp only [Value.okWide, hs] at hval; obtain ⟨cs, rfl, hcs, _⟩ := hval; refine ⟨.agg acs.toArray, H', β', h1, .agg (by have := h2.1; simpa [Value.cells] using this) ?_ ?_, by unfold B30; rw [hs]; exact ⟨acs, rfl, h4⟩⟩
    ·intro i v v' g1 g2; exact h2.2 i v v' (by simpa using g1) (by simpa [Value.cells] using g2)
    ·intro i v' g; have hm : v' ∈ cs := Array.mem_of_getElem? g; exact h3 v' (by simp only [Value.cells]; exact Array.mem_toList_iff.2 hm)
   ·have hone : v.cells.toList = [v] := by
     unfold okT at hok; split at hok
     ·rename_i ht; obtain ⟨b, rfl⟩ := okWide_bool ht hval; rfl
     ·rename_i ht; obtain ⟨b, rfl⟩ := okWide_int ht hval; rfl
     ·rename_i ht; obtain ⟨b, rfl⟩ := okWide_string ht hval; rfl
     ·rename_i ht; obtain ⟨a, l, c, rfl⟩ := okWide_slice ht hval; rfl
     ·rename_i fs ht; exact absurd ⟨fs, ht⟩ hs
     ·cases hok
    rw [hone] at h2
    match acs, h2 with
    | [], h2 => exact absurd h2.1 (by simp)
    | [a], h2 =>
      refine ⟨a, H', β', h1, h2.of_cons.1, ?_⟩; unfold B30; split
      ·rename_i fs ht; exact absurd ⟨fs, ht⟩ hs
      ·exact h4
    | a :: b :: l, h2 => exact absurd h2.1 (by simp)
theorem C57 {n b0 : Nat} : ∀ (ts : List TypeId) (vs : List Value) (ds : List (DataW T)) (ps : List MemPlace) (H : A1) (β : Inj), ts.all (okT P n) = true → DataW.TrodAll enc P w base (fun _ => true) held ts vs ds ps → (∀ q ∈ DataW.weightsEach P ts ds, q ≤ reachBytes) →
 (∀ (j : Nat) t v, ts[j]? = some t → vs[j]? = some v → Value.okWide P w .any b0 t v) → WR H.next β H w → ∃ avs H' β', Gr w H β H' β' ∧ VRs β' avs vs ∧ B6u P H' n ts avs
 | [], vs, ds, ps, H, β, _, h, _, _, hw => by
   obtain ⟨rfl, _, _⟩ := trodAll_nil h; exact ⟨[], H, β, Gr.refl hw, VRs.nil _, trivial⟩
 | t :: ts, vs, ds, ps, H, β, hok, h, hwt, hval, hw => by
   obtain ⟨v, vs', d, ds', p, q, rfl, rfl, _, h0, hr⟩ := trodAll_cons h; simp only [List.all_cons, Bool.and_eq_true] at hok; obtain ⟨av, H1, β1, g1, g2, g3⟩ := D2t hok.1 h0 (fun q hq => hwt q (by simp [DataW.weightsEach, hq])) (hval 0 t v rfl rfl) hw; obtain ⟨avs, H2, β2, k1, k2, k3⟩ := C57 ts vs' ds' q H1 β1 hok.2 hr (fun q hq => hwt q (by simp [DataW.weightsEach, hq])) (fun j t v a b => hval (j + 1) t v (by simpa using a) (by simpa using b)) g1.wr; exact ⟨av :: avs, H2, β2, g1.trans k1, VRs.cons (g2.mono k1.le) k2, g3.ext k1.ext, k3⟩
theorem C7e {f : FuncId} {args : Array Value} {avs : List Value} {H : A1} {β : Inj} (hen : A6t P f) (hA : A5 P H.next f avs H fun v _ => v = .bool true) (hw : WR H.next β H w) (hv : VRs β avs args.toList) :
 Calls P f args w fun e w' => e = .returned (.bool true) ∧ Below w.heap.size w w' := by
 have hA : B2k P H.next f avs H fun v _ => v = .bool true := by
  rcases hA with h | ⟨_, v, _, h2, _⟩
  ·exact h
  ·obtain ⟨fn, h3, h4, h5⟩ := hen; have h6 : fn.body ≠ none := by intro h; rw [h] at h5; cases h5
   have := h2 w; simp [callFunc, program, Sem.run, h3, h4, h6] at this
 refine (hA.2 β w args hw hv).mono ?_; rintro e w' ⟨v, v', H', β', rfl, rfl, hr, _, hf⟩; have hr' : v' = .bool true := by cases hr; rfl
 subst hr'; refine ⟨rfl, hf.os, hf.tape, hf.output, hf.size, fun k hk => hf.block k hk ?_⟩; intro b cs s hl hb; have := hw.lt hb; omega
theorem C7g {n b0 : Nat} {f : FuncId} {ts : List TypeId} {args : Array Value} {ds : List (DataW T)} {ps : List MemPlace} (hok : ts.all (okT P n) = true) (h : DataW.TrodAll enc P w base (fun _ => true) held ts args.toList ds ps)
 (hsz : (DataW.weightsEach P ts ds).all (· ≤ reachBytes) = true) (hval : ∀ (j : Nat) t v, ts[j]? = some t → args[j]? = some v → Value.okWide P w .any b0 t v) (hen : A6t P f) (hlaw : ∀ H avs, B6u P H n ts avs → A5 P H.next f avs H fun v _ => v = .bool true) :
 Calls P f args w fun e w' => e = .returned (.bool true) ∧ Below w.heap.size w w' := by
 obtain ⟨avs, H', β', h1, h2, h3⟩ := C57 ts args.toList ds ps ⟨fun _ => none, 0⟩ (fun _ => none) hok h (fun q hq => by simpa using List.all_eq_true.1 hsz q hq) (fun j t v a b => hval j t v a (by simpa using b)) (WR.none w); exact C7e hen (hlaw H' avs h3) h1.wr h2
end
end Go.Ab
