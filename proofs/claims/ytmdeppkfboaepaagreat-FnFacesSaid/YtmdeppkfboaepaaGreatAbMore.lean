/- A part of the proof of a statement of this seat: the program logic; no condition. -/
import Derived.Test.YtmdeppkfboaepaaGreatAbStep
namespace Go.Ab
set_option linter.unusedVariables false
set_option linter.unusedSimpArgs false
section
variable {P : Program} {lim : Nat} {Q : J6} {e : List Value} {H : A1} {a b c : C1} {ops : List D9}
theorem D8.mono {K K' : List Value → List Value → A1 → Prop} (hk : ∀ e t H, K e t H → K' e t H) : ∀ {ops : List D9} {e t : List Value} {H : A1}, D8 P lim ops K e t H → D8 P lim ops K' e t H
 | [], e, t, H, h => hk e t H h
 | o :: l, e, t, H, ⟨g, hg, h⟩ => by
   refine ⟨g, hg, ?_⟩; cases g with
   | false => simp only [Bool.false_eq_true, if_false] at h ⊢; exact D8.mono hk h
   | true =>
     simp only [if_true] at h ⊢; cases ho : o.op with
     | pure p => rw [ho] at h; obtain ⟨v, h1, h2⟩ := h; exact ⟨v, h1, D8.mono hk h2⟩
     | eff x => rw [ho] at h; obtain ⟨v, H', h1, h2⟩ := h; exact ⟨v, H', h1, D8.mono hk h2⟩
     | call nw f as => rw [ho] at h; obtain ⟨v, cs, h1, h2⟩ := h; exact ⟨v, cs, h1, h2.mono fun v H' h => D8.mono hk h⟩
theorem C4n (g : Bool) (e1 : List Value) (H1 : A1) {o : Opd} {x y : C1} (h : D8 P lim ops (fun e' t' H' => o.ev e' t' = .bool g ∧ e' = e1 ∧ H' = H1) e [] H)
 (h1 : g = true → awp P lim x (J6.seq (fun e' H' => awp P lim b Q e' H') Q) e1 H1) (h2 : g = false → awp P lim y (J6.seq (fun e' H' => awp P lim b Q e' H') Q) e1 H1) : awp P lim (.seq (.test ops o x y) b) Q e H := by
 refine A9 (D8.mono ?_ h); rintro e' t' H' ⟨h3, rfl, rfl⟩; rw [h3]; exact C4.split h1 h2
theorem C2l (g : Bool) (e1 : List Value) (H1 : A1) {o : Opd} {x y : C1} (h : D8 P lim ops (fun e' t' H' => o.ev e' t' = .bool g ∧ e' = e1 ∧ H' = H1) e [] H)
 (h1 : g = true → awp P lim x Q e1 H1) (h2 : g = false → awp P lim y Q e1 H1) : awp P lim (.test ops o x y) Q e H := by
 refine E1 (D8.mono ?_ h); rintro e' t' H' ⟨h3, rfl, rfl⟩; rw [h3]; exact C4.split h1 h2
theorem J1 (g : Bool) (I : A1 → Prop) {o : Opd} {x y : C1} (h : D8 P lim ops (fun e' t' H' => o.ev e' t' = .bool g ∧ e' = e ∧ I H') e [] H)
 (h1 : ∀ H', I H' → g = true → awp P lim x (J6.seq (fun e' H' => awp P lim b Q e' H') Q) e H') (h2 : ∀ H', I H' → g = false → awp P lim y (J6.seq (fun e' H' => awp P lim b Q e' H') Q) e H') : awp P lim (.seq (.test ops o x y) b) Q e H := by
 refine A9 (D8.mono ?_ h); rintro e' t' H' ⟨h3, rfl, h4⟩; rw [h3]; exact C4.split (h1 H' h4) (h2 H' h4)
theorem D7 (g : Bool) {o : Opd} {x y : C1} (h : D8 P lim ops (fun e' t' H' => o.ev e' t' = .bool g ∧ e' = e ∧ H' = H) e [] H)
 (h1 : g = true → awp P lim x (J6.seq (fun e' H' => awp P lim b Q e' H') Q) e H) (h2 : g = false → awp P lim y (J6.seq (fun e' H' => awp P lim b Q e' H') Q) e H) : awp P lim (.seq (.test ops o x y) b) Q e H := C4n g e H h h1 h2
theorem D0 (g : Bool) {o : Opd} {x y : C1} (h : D8 P lim ops (fun e' t' H' => o.ev e' t' = .bool g ∧ e' = e ∧ H' = H) e [] H)
 (h1 : g = true → awp P lim x Q e H) (h2 : g = false → awp P lim y Q e H) : awp P lim (.test ops o x y) Q e H := C2l g e H h h1 h2
theorem T6.mono {K K' : List Value → List Value → A1 → Prop} (hk : ∀ e t H, K e t H → K' e t H) : ∀ {T : B0} {e t : List Value} {H : A1}, T6 P lim T K e t H → T6 P lim T K' e t H
 | .nil, e, t, H, h => hk _ _ _ h
 | .op i o k, e, t, H, h => by
   rw [D3q] at h ⊢; exact D8.mono (fun _ _ _ h => T6.mono hk h) h
 | .alt x y, e, t, H, h => ⟨T6.mono hk h.1, T6.mono hk h.2⟩
theorem d6 (I : List Value → A1 → Prop) {T : B0} (h : T6 P lim T (fun e' _ H' => I e' H') e [] H) (h1 : ∀ e' H', I e' H' → awp P lim b Q e' H') : awp P lim (.seq (.regT T) b) Q e H :=
 B7x (T6.mono (fun e' _ H' => h1 e' H') h)
theorem B6c (e1 : List Value) (h : D8 P lim ops (fun e' _ H' => e' = e1 ∧ H' = H) e [] H) (h1 : Q .normal e1 H) : awp P lim (.reg ops) Q e H :=
 A4 (D8.mono (fun e' _ H' ⟨h2, h3⟩ => by rw [h2, h3]; exact h1) h)
theorem A5.eq {f : FuncId} {args : List Value} {v : Value} {R : Value → A1 → Prop} (h : A5 P lim f args H (fun u H' => u = v ∧ H' = H)) (hk : R v H) : A5 P lim f args H R :=
 h.mono fun u H' ⟨h1, h2⟩ => by rw [h1, h2]; exact hk
theorem d8 (H : A1) (a b : List Value) : (H.alloc a).put H.next b = H.alloc b := by
 unfold A1.alloc A1.put
 congr 1
 funext b'
 by_cases h : b' = H.next <;> simp [h]
theorem A92 {b o n c i : Nat} {sp : Option Nat} (k : IntKind) (h : i < n) : F1 1 (.slice (some ⟨b, o, sp⟩) n c) (.int k i) = some (.pointer (some ⟨b, o + i, none⟩)) := by
 simp [F1, h]
theorem S3 {b o : Nat} {cs : List Value} {x : Value} (hx : C2 x = some [x]) (hl : lim ≤ b) (hb : H.blk b = some cs) (ho : o < cs.length) :
 C8 lim H 1 (.pointer (some ⟨b, o, none⟩)) x = some (undef, H.put b (cs.set o x)) := by
 simp only [C8, hx, Option.bind_some, List.length_cons, List.length_nil, hl, hb, Nat.zero_add, and_self, if_true]; rw [if_pos (by omega), B2s ho, B7b]
theorem B93 {b o : Nat} {cs : List Value} (k : IntKind) (x : Int) (hl : lim ≤ b) (hb : H.blk b = some cs) (ho : o < cs.length) :
 C8 lim H 1 (.pointer (some ⟨b, o, none⟩)) (.int k x) = some (undef, H.put b (cs.set o (.int k x))) := S3 rfl hl hb ho
theorem A1c (n : Nat) (z : Value) : K3 n [z] = List.replicate n z := by
 induction n with
 | zero => rfl
 | succ n ih => simp [K3, ih, List.replicate_succ]
theorem A14 (bytes n m : Nat) (zero : List Value) (h : n ≤ m) (hm : m ≤ 140737488355328) (hb : m * bytes ≤ 140737488355328) :
 A3l H bytes zero (.int .i64 n) (.int .i64 m) = some (.slice (some ⟨H.next, 0, some 0⟩) n m, H.alloc (K3 m zero)) := by
 have h4 : (m : Int) * bytes ≤ 140737488355328 := by rw [← Int.natCast_mul]; omega
 exact if_pos (⟨by omega, by omega, by omega, h4⟩ : (0 : Int) ≤ n ∧ (n : Int) ≤ m ∧ (m : Int) ≤ 140737488355328 ∧ (m : Int) * bytes ≤ 140737488355328)
theorem D6 {i : Nat} (h : i < 9000000000000000000) : IntKind.i64.wrap ((i : Int) + 1) = ((i + 1 : Nat) : Int) := by
 rw [R3 (by omega) (by omega)]; rfl
theorem C71 {i j : Nat} (h : i + j < 9000000000000000000) : IntKind.i64.wrap ((i : Int) + j) = ((i + j : Nat) : Int) := by
 rw [R3 (by omega) (by omega)]; rfl
theorem A6z {n m : Nat} (h : n ≤ m) : 1 ≤ (2 : Int) ^ n ∧ (2 : Int) ^ n ≤ 2 ^ m := by
 have e : ∀ k : Nat, (2 : Int) ^ k = ((2 ^ k : Nat) : Int) := fun k => by simp
 have h1 : 2 ^ n ≤ 2 ^ m := Nat.pow_le_pow_right (by decide) h; have h2 : 1 ≤ 2 ^ n := Nat.one_le_two_pow; rw [e, e]; exact ⟨by exact_mod_cast h2, by exact_mod_cast h1⟩
end
end Go.Ab
