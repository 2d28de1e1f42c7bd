/- Parts of the proof of a statement of this seat: contracts of functions that the law calls, or the law's own row; no condition. -/
import Derived.Lib.Strings
import Derived.Lib.Slices
import Derived.Lib.Walk
import Derived.Lib.Bytealg
import Derived.Test.YtaimceodhhgnnaaM4
/- The reader of expressions, implementation: the next byte, numbers; no condition beyond stated ranges. -/
namespace Go.Proofs.Ytaimceodhhgnnaa
open Go.Ab
set_option linter.unusedSimpArgs false
set_option linter.unusedVariables false

/-! ### the library's search of a byte, by its own contract -/
theorem closed_eq {β : Inj} {v v' : Value} (h : VR β v v') (hc : closedV v = true) : v' = v := by
  cases h <;> first | rfl | (simp [closedV] at hc; done)
theorem closed_alls {β : Inj} : ∀ {l l' : List Value}, VRs β l l' → l.all closedV = true → l' = l
  | [], [], _, _ => rfl
  | [], _ :: _, h, _ => by have := h.1; simp at this
  | _ :: _, [], h, _ => by have := h.1; simp at this
  | x :: l, y :: l', h, hc => by
    simp only [List.all_cons, Bool.and_eq_true] at hc
    obtain ⟨h1, h2⟩ := h.of_cons
    rw [closed_eq h1 hc.1, closed_alls h2 hc.2]
theorem acalls_of_calls {P : Program} {lim : Nat} {f : FuncId} {args : List Value} {H : AHeap} {v : Value} (he : Enterable P f) (hc : args.all closedV = true) (hv : closedV v = true)
    (h : ∀ w, Calls P f args.toArray w fun e w' => e = .returned v ∧ w' = w) : ACalls P lim f args H fun u H' => u = v ∧ H' = H := by
  refine ⟨he, fun β w args' hw hvs => ?_⟩
  have e : args' = args.toArray := by
    have := closed_alls hvs hc
    cases args'
    simp at this
    rw [this]
  subst e
  refine (h w).mono ?_
  rintro e w' ⟨rfl, rfl⟩
  exact ⟨v, v, H, β, rfl, ⟨rfl, rfl⟩, VR.closed hv, hw, Fr.refl _ _ _ _⟩
set_option maxHeartbeats 1000000 in
set_option maxRecDepth 100000 in
theorem stringslite_IndexByte (s : ByteArray) (c : Int) (w : World) :
    Calls Try.prog n_internal_stringslite_IndexByte #[.string s, .int .u8 c] w fun e w' => e = .returned (.int .i64 (Lib.indexByte s.data.toList c.toNat.toUInt8)) ∧ w' = w := by
  go_enter Try.func189, Try.ntmps189
  go_wp2
  rw [run_callFunc_extern Try.func195 (by kernel_rfl) (by kernel_rfl) (by kernel_rfl) (e := Extern.BytealgIndexByte.indexByte) (by kernel_rfl), Lib.run_indexByteString]
  simp only [Result.andThen]
  rw [Oper.upon_value]
  go_wp2
  go_ret
  exact ⟨rfl, rfl⟩
set_option maxHeartbeats 1000000 in
set_option maxRecDepth 100000 in
theorem strings_IndexByte (s : ByteArray) (c : Int) (w : World) :
    Calls Try.prog n_strings_IndexByte #[.string s, .int .u8 c] w fun e w' => e = .returned (.int .i64 (Lib.indexByte s.data.toList c.toNat.toUInt8)) ∧ w' = w := by
  go_enter Try.func176, Try.ntmps176
  go_wp2_with (go_at_call 189; refine (stringslite_IndexByte _ _ _).mono ?_; rintro e w' ⟨rfl, rfl⟩)
  go_ret
  exact ⟨rfl, rfl⟩
theorem indexByte_ok (lim : Nat) (s : ByteArray) (c : Int) (H : AHeap) : ACalls Try.prog lim n_strings_IndexByte [.string s, .int .u8 c] H fun v H' => v = .int .i64 (Lib.indexByte s.data.toList c.toNat.toUInt8) ∧ H' = H :=
  acalls_of_calls is_strings_IndexByte.enter rfl rfl fun w => strings_IndexByte s c w
theorem idx_mem (c : UInt8) : ∀ l : List UInt8, decide (Lib.indexByte l c ≥ 0) = l.any fun b => b == c
  | [] => rfl
  | b :: l => by
    have ih := idx_mem c l
    have hge := Lib.indexByte_ge l c
    rw [List.any_cons, ← ih, show Lib.indexByte (b :: l) c = if b == c then 0 else if Lib.indexByte l c == -1 then -1 else Lib.indexByte l c + 1 from rfl]
    cases hb : (b == c)
    · simp only [Bool.false_eq_true, if_false, Bool.false_or]
      by_cases h1 : Lib.indexByte l c = -1
      · simp [h1]
      · have h2 : (Lib.indexByte l c == -1) = false := by simpa using h1
        simp only [h2, Bool.false_eq_true, if_false]
        exact decide_eq_decide.2 (by omega)
    · simp

/-! ### the reader's cells -/
def IRd (H : AHeap) (q : Nat) (s : ByteArray) (i d m : Int) (f t : Bool) : Prop := H.blk q = some [.string s, .int .i64 i, .int .i64 d, .int .i64 m, .bool f, .bool t, .int .i64 0, .slice none 0 0]
section
variable {lim q : Nat} {H H' : AHeap} {s : ByteArray} {i d m : Int} {f t : Bool}
theorem IRd.c0 (h : IRd H q s i d m f t) : H.cell q 0 = some (.string s) := cell_blk h 0
theorem IRd.c1 (h : IRd H q s i d m f t) : H.cell q 1 = some (.int .i64 i) := cell_blk h 1
theorem IRd.c2 (h : IRd H q s i d m f t) : H.cell q 2 = some (.int .i64 d) := cell_blk h 2
theorem IRd.c3 (h : IRd H q s i d m f t) : H.cell q 3 = some (.int .i64 m) := cell_blk h 3
theorem IRd.c4 (h : IRd H q s i d m f t) : H.cell q 4 = some (.bool f) := cell_blk h 4
theorem IRd.c5 (h : IRd H q s i d m f t) : H.cell q 5 = some (.bool t) := cell_blk h 5
theorem IRd.ext (h : IRd H q s i d m f t) (hx : Ext H H') (hq : q < H.next) : IRd H' q s i d m f t := by unfold IRd at *; rw [hx.blk q hq]; exact h
theorem IRd.over {p : Nat} (h : IRd H q s i d m f t) (hx : Chg p H H') (hq : q < H.next) (hne : q ≠ p) : IRd H' q s i d m f t := by unfold IRd at *; rw [hx.blk q hq hne]; exact h
theorem IRd.s1 (h : IRd H q s i d m f t) (hl : lim ≤ q) (x : Int) : ∃ H', storeH lim H 1 (.pointer (some ⟨q, 1, none⟩)) (.int .i64 x) = some (undef, H') ∧ IRd H' q s x d m f t ∧ Chg q H H' :=
  ⟨_, store_cell rfl hl h (by simp), put_same _ _ _, Chg.put _ _ _⟩
theorem IRd.s2 (h : IRd H q s i d m f t) (hl : lim ≤ q) (x : Int) : ∃ H', storeH lim H 1 (.pointer (some ⟨q, 2, none⟩)) (.int .i64 x) = some (undef, H') ∧ IRd H' q s i x m f t ∧ Chg q H H' :=
  ⟨_, store_cell rfl hl h (by simp), put_same _ _ _, Chg.put _ _ _⟩
theorem IRd.s3 (h : IRd H q s i d m f t) (hl : lim ≤ q) (x : Int) : ∃ H', storeH lim H 1 (.pointer (some ⟨q, 3, none⟩)) (.int .i64 x) = some (undef, H') ∧ IRd H' q s i d x f t ∧ Chg q H H' :=
  ⟨_, store_cell rfl hl h (by simp), put_same _ _ _, Chg.put _ _ _⟩
theorem IRd.s4 (h : IRd H q s i d m f t) (hl : lim ≤ q) (x : Bool) : ∃ H', storeH lim H 1 (.pointer (some ⟨q, 4, none⟩)) (.bool x) = some (undef, H') ∧ IRd H' q s i d m x t ∧ Chg q H H' :=
  ⟨_, store_cell rfl hl h (by simp), put_same _ _ _, Chg.put _ _ _⟩
theorem IRd.s5 (h : IRd H q s i d m f t) (hl : lim ≤ q) (x : Bool) : ∃ H', storeH lim H 1 (.pointer (some ⟨q, 5, none⟩)) (.bool x) = some (undef, H') ∧ IRd H' q s i d m f x ∧ Chg q H H' :=
  ⟨_, store_cell rfl hl h (by simp), put_same _ _ _, Chg.put _ _ _⟩
end

def hitB (nd : List UInt8) (s : ByteArray) (i : Nat) : Bool := decide (i < s.size) && nd.any fun b => b.toNat == ch s i
theorem iNext_ok (lim q : Nat) (nd : List UInt8) (s : ByteArray) (i : Nat) (d m : Int) (f t : Bool) (H : AHeap) (hq : lim ≤ q) (hi : i ≤ 1000) (h : IRd H q s i d m f t) :
    ACalls Try.prog lim n_impl_reader_next [pt q, .string ⟨⟨nd⟩⟩] H fun v H' => v = .tuple #[.int .u8 (if hitB nd s i then (ch s i : Int) else 0), .bool (hitB nd s i)] ∧ IRd H' q s ((if hitB nd s i then i + 1 else i : Nat) : Int) d m f t ∧ Chg q H H' := by
  refine is_impl_reader_next.go rfl ?_
  unfold c_impl_reader_next
  refine s_reg ?_
  simp only [o_pure, o_nil, POp.ev, Opd.ev, env0, gu, setD, List.set, Option.some.injEq, exists_eq_left']
  refine s_test_same (hitB nd s i) ?_ (fun hh => ?_) (fun hh => ?_)
  · simp only [o_pure, o_guard, POp.ev, Opd.ev, gv, setD, Option.some.injEq, exists_eq_left', binV, load1V, nilchkV, fadV, slenV, ne_eq, not_true_eq_false, if_false, Nat.zero_add, h.c0, h.c1]
    unfold hitB
    by_cases hlt : i < s.size
    · have e0 : decide ((i : Int) < (s.size : Int)) = true := by simpa using hlt
      obtain ⟨e1, e2⟩ := ch_at hlt
      have e3 : sixV (.string s) (.int .i64 (i : Int)) = some (.int .u8 (ch s i : Int)) := by simp [sixV, e1, e2]
      have e5 : ((ch s i : Int)).toNat.toUInt8 = s[i] := by rw [e2]; simp
      simp only [o_pure, o_callF, o_guard, gk_tt, POp.ev, Opd.ev, gv, setD, List.map, Option.some.injEq, exists_eq_left', load1V, nilchkV, fadV, Nat.zero_add, h.c0, h.c1, e0, e3]
      refine (indexByte_ok _ _ _ _).eq ?_
      simp only [o_cont, o_pure, o_guard, gk_tt, o_nil, POp.ev, Opd.ev, gv, setD, Option.some.injEq, exists_eq_left', pickV, binV, ne_eq, not_true_eq_false, if_false, e5, idx_mem]
      have e4 : (fun b : UInt8 => b == s[i]) = fun b : UInt8 => b.toNat == ch s i := by
        funext b
        rw [e2, Bool.eq_iff_iff, beq_iff_eq, beq_iff_eq]
        exact UInt8.toNat_inj.symm
      rw [e4]
      simp [hlt]
    · have e0 : decide ((i : Int) < (s.size : Int)) = false := by simpa using hlt
      simp only [o_pure, o_guard, gk_ft, o_nil, POp.ev, Opd.ev, gv, setD, Option.some.injEq, exists_eq_left', pickV, e0]
      simp [hlt]
  · have hlt : i < s.size := by
      unfold hitB at hh
      simp at hh
      exact hh.1
    obtain ⟨e1, e2⟩ := ch_at hlt
    obtain ⟨H1, t1, h1, c1⟩ := h.s1 hq ((i + 1 : Nat) : Int)
    have w1 : IntKind.i64.wrap (((i + 1 : Nat) : Int) - 1) = (i : Int) := by rw [IntKind.wrap_i64]; omega
    have e3 : sixV (.string s) (.int .i64 (i : Int)) = some (.int .u8 (ch s i : Int)) := by simp [sixV, e1, e2]
    refine s_reg ?_
    simp only [o_pure, o_eff, o_nil, POp.ev, Opd.ev, EOp.ev, gv, setD, Option.some.injEq, exists_eq_left', binV, load1V, nilchkV, fadV, ne_eq, not_true_eq_false, if_false, Nat.zero_add, h.c1, add1 (i := i) (by omega), t1]
    refine s_reg ?_
    simp only [o_pure, o_nil, POp.ev, Opd.ev, gv, setD, List.set, Option.some.injEq, exists_eq_left', binV, load1V, nilchkV, fadV, ne_eq, not_true_eq_false, if_false, Nat.zero_add, h1.c0, h1.c1, w1, e3]
    refine s_ret1 ?_
    simp +decide only [p_seq_ret, p_fin_ret, resV, resOne, resL, gv, Option.some.injEq, exists_eq_left', Option.bind_some, Option.map_some]
    rw [hh, if_pos rfl, if_pos rfl]
    exact ⟨rfl, h1, c1⟩
  · refine s_skip1 ?_
    simp +decide only [p_seq_normal]
    refine s_reg ?_
    simp only [o_pure, o_nil, POp.ev, Opd.ev, setD, List.set, Option.some.injEq, exists_eq_left']
    refine s_ret1 ?_
    simp +decide only [p_fin_ret, resV, resOne, resL, gv, Option.some.injEq, exists_eq_left', Option.bind_some, Option.map_some]
    rw [hh]
    exact ⟨rfl, h, Chg.refl _ _⟩
theorem hit_eq {nd : List UInt8} (h0 : nd.all (fun b => b.toNat != 0) = true) (s : ByteArray) (i : Nat) : hitB nd s i = nd.any fun b => b.toNat == ch s i := by
  unfold hitB
  by_cases hi : i < s.size
  · simp [hi]
  · rw [ch_end (by omega)]
    have : (nd.any fun b => b.toNat == 0) = false := by
      rw [List.any_eq_false]
      intro b hb
      have := List.all_eq_true.1 h0 b hb
      simpa using this
    rw [this]
    simp
theorem hit_minus (s : ByteArray) (i : Nat) : hitB [45] s i = decide (ch s i = 45) := by
  rw [hit_eq (by decide), Bool.eq_iff_iff, decide_eq_true_iff]
  simp only [List.any_cons, List.any_nil, Bool.or_false, beq_iff_eq]
  exact eq_comm
theorem hit_pm (s : ByteArray) (i : Nat) : hitB [43, 45] s i = decide (ch s i = 43 ∨ ch s i = 45) := by
  rw [hit_eq (by decide)]
  rw [Bool.eq_iff_iff]
  simp only [List.any_cons, List.any_nil, Bool.or_false, Bool.or_eq_true, beq_iff_eq, decide_eq_true_iff]
  change (43 = ch s i ∨ 45 = ch s i) ↔ _
  omega
theorem hit_times (s : ByteArray) (i : Nat) : hitB [42] s i = decide (ch s i = 42) := by
  rw [hit_eq (by decide), Bool.eq_iff_iff, decide_eq_true_iff]
  simp only [List.any_cons, List.any_nil, Bool.or_false, beq_iff_eq]
  exact eq_comm
theorem hit_hat (s : ByteArray) (i : Nat) : hitB [94] s i = decide (ch s i = 94) := by
  rw [hit_eq (by decide), Bool.eq_iff_iff, decide_eq_true_iff]
  simp only [List.any_cons, List.any_nil, Bool.or_false, beq_iff_eq]
  exact eq_comm
theorem hit_open (s : ByteArray) (i : Nat) : hitB [40] s i = decide (ch s i = 40) := by
  rw [hit_eq (by decide), Bool.eq_iff_iff, decide_eq_true_iff]
  simp only [List.any_cons, List.any_nil, Bool.or_false, beq_iff_eq]
  exact eq_comm
theorem hit_close (s : ByteArray) (i : Nat) : hitB [41] s i = decide (ch s i = 41) := by
  rw [hit_eq (by decide), Bool.eq_iff_iff, decide_eq_true_iff]
  simp only [List.any_cons, List.any_nil, Bool.or_false, beq_iff_eq]
  exact eq_comm
theorem hit_slash (s : ByteArray) (i : Nat) : hitB [47] s i = decide (ch s i = 47) := by
  rw [hit_eq (by decide), Bool.eq_iff_iff, decide_eq_true_iff]
  simp only [List.any_cons, List.any_nil, Bool.or_false, beq_iff_eq]
  exact eq_comm
theorem hit_xyz (s : ByteArray) (i : Nat) : hitB [120, 121, 122] s i = decide (120 ≤ ch s i ∧ ch s i ≤ 122) := by
  rw [hit_eq (by decide)]
  rw [Bool.eq_iff_iff]
  simp only [List.any_cons, List.any_nil, Bool.or_false, Bool.or_eq_true, beq_iff_eq, decide_eq_true_iff]
  change (120 = ch s i ∨ 121 = ch s i ∨ 122 = ch s i) ↔ _
  omega
theorem hit_04 (s : ByteArray) (i : Nat) : hitB [48, 49, 50, 51, 52] s i = decide (48 ≤ ch s i ∧ ch s i ≤ 52) := by
  rw [hit_eq (by decide)]
  rw [Bool.eq_iff_iff]
  simp only [List.any_cons, List.any_nil, Bool.or_false, Bool.or_eq_true, beq_iff_eq, decide_eq_true_iff]
  change (48 = ch s i ∨ 49 = ch s i ∨ 50 = ch s i ∨ 51 = ch s i ∨ 52 = ch s i) ↔ _
  omega
theorem hit_digit (s : ByteArray) (i : Nat) : hitB [48, 49, 50, 51, 52, 53, 54, 55, 56, 57] s i = isD (ch s i) := by
  rw [hit_eq (by decide)]
  unfold isD
  rw [Bool.eq_iff_iff]
  simp only [List.any_cons, List.any_nil, Bool.or_false, Bool.or_eq_true, Bool.and_eq_true, beq_iff_eq, decide_eq_true_iff]
  change (48 = ch s i ∨ 49 = ch s i ∨ 50 = ch s i ∨ 51 = ch s i ∨ 52 = ch s i ∨ 53 = ch s i ∨ 54 = ch s i ∨ 55 = ch s i ∨ 56 = ch s i ∨ 57 = ch s i) ↔ _
  omega

/-- what a number's reading answers: where there is none, it doesn't fit or stands at a digit -/
def NumI (s : ByteArray) (q : Nat) (i : Nat) (d m : Int) (t : Bool) (H : AHeap) (v : Value) (H' : AHeap) : Prop :=
  ∃ (n i' : Nat) (f' : Bool), v = .int .i64 n ∧ n ≤ 9999 ∧ i ≤ i' ∧ i' ≤ s.size ∧ IRd H' q s i' d m f' t ∧ Chg q H H' ∧ (match pNum s i with | some r => n = r.1 ∧ i' = r.2 ∧ f' = true | none => f' = false ∨ isD (ch s i') = true)
theorem numF_step {s : ByteArray} {k i n : Nat} (h : isD (ch s i) = true) : numF s (k + 1) i n = numF s k (i + 1) (10 * n + (ch s i - 48)) := by rw [numF, if_pos h]
theorem pNum_numF {s : ByteArray} {i : Nat} (h : isD (ch s i) = true) : pNum s i = numF s 4 i 0 := by rw [numF_step h]; unfold pNum; rw [if_pos h]; simp
theorem iNumber_ok (lim q : Nat) (s : ByteArray) (i : Nat) (d m : Int) (t : Bool) (H : AHeap) (hl : lim ≤ H.next) (hq : lim ≤ q) (hqn : q < H.next) (hs : s.size ≤ 100) (hi : i ≤ s.size) (h : IRd H q s i d m true t) :
    ACalls Try.prog lim n_impl_reader_number [pt q] H fun v H' => NumI s q i d m t H v H' := by
  refine is_impl_reader_number.go rfl ?_
  unfold c_impl_reader_number
  refine s_reg ?_
  simp only [o_pure, o_nil, POp.ev, Opd.ev, env0, gu, setD, List.set, Option.some.injEq, exists_eq_left']
  refine s_reg ?_
  simp only [o_pure, o_nil, POp.ev, Opd.ev, setD, List.set, Option.some.injEq, exists_eq_left']
  refine s_cut (fun e' H' => ∃ (c n k : Nat) (x4 x5 : Value), c + k = 4 ∧ i + c ≤ s.size ∧ n + 1 ≤ 10 ^ c ∧ IRd H' q s ((i + c : Nat) : Int) d m true t ∧ Chg q H H' ∧ (1 ≤ c → isD (ch s i) = true) ∧ (isD (ch s i) = true → pNum s i = numF s k (i + c) n) ∧ (isD (ch s (i + c)) = false ∨ k = 0) ∧ e' = [pt q, .int .i64 0, .int .i64 n, .int .i64 c, x4, x5]) ?_ ?_
  · refine s_block1 ?_
    refine s_loop1 (fun k e' H' => ∃ (c n : Nat) (x4 x5 : Value), c + k = 4 ∧ i + c ≤ s.size ∧ n + 1 ≤ 10 ^ c ∧ IRd H' q s ((i + c : Nat) : Int) d m true t ∧ Chg q H H' ∧ (1 ≤ c → isD (ch s i) = true) ∧ (isD (ch s i) = true → pNum s i = numF s k (i + c) n) ∧ e' = [pt q, .int .i64 0, .int .i64 n, .int .i64 c, x4, x5]) 4 ⟨0, 0, _, _, rfl, hi, by simp, h, Chg.refl _ _, by omega, fun hd => pNum_numF hd, rfl⟩ ?_
    clear h
    rintro k e' H1 ⟨c, n, x4, x5, hck, hjs, hn, h1, c1, hfirst, hrel, rfl⟩
    have hn1 := c1.next
    refine s_test ?_
    simp only [o_pure, o_nil, POp.ev, Opd.ev, gv, setD, Option.some.injEq, exists_eq_left', binV, ne_eq, not_true_eq_false, if_false]
    refine Test.split (fun hlt => ?_) (fun hlt => ?_)
    · have hc4 : c < 4 := by simp at hlt; omega
      have hn4 : 10 ^ c ≤ 10 ^ 3 := Nat.pow_le_pow_right (by omega) (by omega)
      refine s_skip1 ?_
      simp +decide only [p_seq_normal]
      refine s_block1 ?_
      refine s_reg ?_
      simp only [o_pure, o_callF, POp.ev, Opd.ev, gv, setD, List.map, Option.some.injEq, exists_eq_left']
      refine (iNext_ok lim q _ s (i + c) d m true t H1 hq (by omega) h1).mono ?_
      rintro _ H2 ⟨rfl, h2, c2⟩
      rw [hit_digit] at h2 ⊢
      simp only [o_cont, o_pure, o_nil, POp.ev, Opd.ev, gv, setD, List.set, Option.some.injEq, exists_eq_left', extV, List.getElem?_toArray, List.getElem?_cons_zero, List.getElem?_cons_succ]
      cases hd : isD (ch s (i + c))
      · refine s_test ?_
        simp only [o_pure, o_nil, POp.ev, Opd.ev, gv, setD, Option.some.injEq, exists_eq_left', unV, if_false, Bool.false_eq_true, Bool.not_false]
        refine Test.true_ (s_exit1 ?_)
        simp +decide only [p_seq_normal, p_seq_exit, p_block_exit, reduceIte]
        rw [hd] at h2
        simp only [Bool.false_eq_true, if_false] at h2
        exact ⟨c, n, k, _, _, hck, hjs, hn, h2, c1.trans c2, hfirst, hrel, .inl hd, rfl⟩
      · have hjl := isD_lt hd
        rw [hd] at h2
        simp only [if_true] at h2
        refine s_test ?_
        simp only [o_pure, o_nil, POp.ev, Opd.ev, gv, setD, Option.some.injEq, exists_eq_left', unV, if_true, Bool.not_true]
        refine Test.false_ (s_skip1 ?_)
        simp +decide only [p_seq_normal]
        have hdp := hd
        unfold isD at hdp
        simp at hdp
        have w1 : IntKind.u8.wrap ((ch s (i + c) : Int) - 48) = ((ch s (i + c) - 48 : Nat) : Int) := by
          rw [IntKind.wrap_u8]
          omega
        have w2 : IntKind.i64.wrap ((ch s (i + c) - 48 : Nat) : Int) = ((ch s (i + c) - 48 : Nat) : Int) := W_of_in (by unfold inR; omega)
        have w3 : IntKind.i64.wrap (10 * (n : Int)) = ((10 * n : Nat) : Int) := by
          rw [IntKind.wrap_i64]
          omega
        have w4 : IntKind.i64.wrap (((10 * n : Nat) : Int) + ((ch s (i + c) - 48 : Nat) : Int)) = ((10 * n + (ch s (i + c) - 48) : Nat) : Int) := by
          rw [IntKind.wrap_i64]
          omega
        refine s_reg ?_
        simp only [o_pure, o_nil, POp.ev, Opd.ev, gv, setD, List.set, Option.some.injEq, exists_eq_left', binV, convV, ne_eq, not_true_eq_false, if_false, w1, w2, w3, w4]
        refine s_reg1 ?_
        simp only [o_pure, o_nil, POp.ev, Opd.ev, gv, setD, List.set, Option.some.injEq, exists_eq_left', binV, ne_eq, not_true_eq_false, if_false, add1 (i := c) (by omega)]
        simp +decide only [p_seq_normal, p_block_normal]
        obtain ⟨k, rfl⟩ : ∃ k', k = k' + 1 := ⟨k - 1, by omega⟩
        refine Round.mk k (by omega) ⟨c + 1, 10 * n + (ch s (i + c) - 48), _, _, by omega, by omega, ?_, h2, c1.trans c2, fun _ => ?_, fun h0 => ?_, rfl⟩
        · rw [Nat.pow_succ]
          have : (n + 1) * 10 ≤ 10 ^ c * 10 := Nat.mul_le_mul_right _ hn
          omega
        · by_cases hc0 : c = 0
          · subst hc0; exact hd
          · exact hfirst (by omega)
        · rw [hrel h0, numF_step hd]
          rfl
    · have hc4 : ¬ c < 4 := by simp at hlt; omega
      refine s_exit1 ?_
      simp +decide only [p_seq_normal, p_seq_exit, p_block_exit, reduceIte]
      exact ⟨c, n, k, _, _, hck, hjs, hn, h1, c1, hfirst, hrel, .inr (by omega), rfl⟩
  · clear h
    rintro e' H2 ⟨c, n, k, x4, x5, hck, hjs, hn, h2, c2, hfirst, hrel, hend, rfl⟩
    have hn4 : 10 ^ c ≤ 10 ^ 4 := Nat.pow_le_pow_right (by omega) (by omega)
    obtain ⟨H3, e3, h3, c3⟩ := h2.s4 hq (decide ((c : Int) > 0))
    refine s_reg ?_
    simp only [o_pure, o_eff, o_guard, gk_tt, o_nil, POp.ev, Opd.ev, EOp.ev, gv, setD, Option.some.injEq, exists_eq_left', pickV, binV, load1V, nilchkV, fadV, ne_eq, not_true_eq_false, if_false, Nat.zero_add, h2.c4, e3]
    refine s_reg ?_
    simp only [o_pure, o_nil, POp.ev, Opd.ev, gv, setD, List.set, Option.some.injEq, exists_eq_left']
    refine s_ret1 ?_
    simp +decide only [p_fin_ret, resV, resOne, gv, Option.some.injEq, exists_eq_left']
    refine ⟨n, i + c, _, rfl, by omega, by omega, hjs, h3, c2.trans c3, ?_⟩
    by_cases hc0 : c = 0
    · subst hc0
      have hdf : isD (ch s i) = false := by
        rcases hend with h | h
        · exact h
        · omega
      have : pNum s i = none := by unfold pNum; rw [hdf]; rfl
      rw [this]
      exact .inl rfl
    · have hc1 : decide ((c : Int) > 0) = true := by simp; omega
      rw [hrel (hfirst (by omega)), hc1]
      cases hdd : isD (ch s (i + c)) with
      | false =>
        have : numF s k (i + c) n = some (n, i + c) := by
          cases k <;> (unfold numF; rw [hdd]; rfl)
        rw [this]
        exact ⟨rfl, rfl, rfl⟩
      | true =>
        have hk0 : k = 0 := by
          rcases hend with h | h
          · rw [hdd] at h; cases h
          · exact h
        subst hk0
        rw [numF, if_pos hdd]
        exact .inr rfl
end Go.Proofs.Ytaimceodhhgnnaa

/- ShiftSystem: the walk of the implementation's side; no condition beyond stated lengths. -/
namespace Go.Proofs.Ytaimceodhhgnnaa
open Go.Ab
set_option linter.unusedSimpArgs false
set_option linter.unusedVariables false

theorem aad_in {q n : Nat} {i : Nat} (h : i < n) : aadV n 1 (.pointer (some ⟨q, 0, none⟩)) (.int .i64 i) = some (.pointer (some ⟨q, i, none⟩)) := by
  simp [aadV, h]
theorem termOfG_ok (lim : Nat) (c x y z : Int) (H : AHeap) (hl : lim ≤ H.next) : ACalls Try.prog lim n_impl_termOf [.int .i64 c, .agg #[vi x, vi y, vi z]] H fun v H' => v = tv ⟨c, x, y, z⟩ ∧ Ext H H' := by
  refine is_impl_termOf.go rfl ?_
  unfold c_impl_termOf
  have hcv : cellsV (.agg #[vi x, vi y, vi z]) = some [vi x, vi y, vi z] := rfl
  refine s_reg ?_
  simp only [o_eff, o_nil, Opd.ev, EOp.ev, env0, gu, gv, setD, List.set, Option.map_some, Option.some.injEq, exists_eq_left', boxH, hcv]
  have hx1 := Ext.alloc H [vi x, vi y, vi z]
  have hp : (H.alloc [vi x, vi y, vi z]).blk H.next = some [vi x, vi y, vi z] := alloc_new _ _
  have hnp : (H.alloc [vi x, vi y, vi z]).next = H.next + 1 := rfl
  generalize H.alloc [vi x, vi y, vi z] = H1 at hx1 hp hnp ⊢
  have hx2 := Ext.alloc H1 [.int .i64 0, .int .i64 0, .int .i64 0, .int .i64 0]
  have hr : (H1.alloc [.int .i64 0, .int .i64 0, .int .i64 0, .int .i64 0]).blk H1.next = some [.int .i64 0, .int .i64 0, .int .i64 0, .int .i64 0] := alloc_new _ _
  rw [← hx2.blk _ (by omega)] at hp
  replace hx1 := hx1.trans hx2
  generalize H1.alloc [.int .i64 0, .int .i64 0, .int .i64 0, .int .i64 0] = H2 at hx1 hp hr ⊢
  generalize hre : H1.next = r at hr hnp ⊢
  generalize hpe : H.next = p at hp hnp hl ⊢
  have a0 : aadV 3 1 (.pointer (some ⟨p, 0, none⟩)) (.int .i64 0) = some (.pointer (some ⟨p, 0, none⟩)) := aad_in (i := 0) (by omega)
  have a1 : aadV 3 1 (.pointer (some ⟨p, 0, none⟩)) (.int .i64 1) = some (.pointer (some ⟨p, 1, none⟩)) := aad_in (i := 1) (by omega)
  have a2 : aadV 3 1 (.pointer (some ⟨p, 0, none⟩)) (.int .i64 2) = some (.pointer (some ⟨p, 2, none⟩)) := aad_in (i := 2) (by omega)
  have hst : storeH lim H2 4 (.pointer (some ⟨r, 0, none⟩)) (tv ⟨c, x, y, z⟩) = some (undef, H2.put r (tc ⟨c, x, y, z⟩)) := store4 (by omega) hr
  have hbv : ∀ l : List Value, l = tc ⟨c, x, y, z⟩ → Value.agg l.toArray = tv ⟨c, x, y, z⟩ := by rintro l rfl; rfl
  refine s_reg ?_
  simp only [o_pure, o_eff, o_nil, POp.ev, Opd.ev, EOp.ev, gv, setD, List.map, Option.map_some, Option.some.injEq, exists_eq_left', load1V, List.getElem?_cons_zero, List.getElem?_cons_succ, a0, a1, a2, cell_blk hp, bldT, hbv _ rfl, hst]
  refine s_ret1 ?_
  have hld : loadNV (H2.put r (tc ⟨c, x, y, z⟩)) 4 (.pointer (some ⟨r, 0, none⟩)) = some (tv ⟨c, x, y, z⟩) := load4 (put_same _ _ _)
  simp +decide only [p_fin_ret, resV, resOne, gv, Option.some.injEq, exists_eq_left', hld]
  exact ⟨trivial, Chg.ext hx1 (Chg.put _ _ _) (by omega)⟩

end Go.Proofs.Ytaimceodhhgnnaa

/- The reader of expressions, implementation: values told, kept, reduced; sums and products; no condition beyond stated ranges. -/
namespace Go.Proofs.Ytaimceodhhgnnaa
open Go.Ab
set_option linter.unusedSimpArgs false
set_option linter.unusedVariables false

def redV (ts : List Tm) (den : Int) : V := ⟨ts.map (divT (gcdL den ts)), den.tdiv (gcdL den ts)⟩
def toldB (v : V) : Bool := v.ts.all okC && decide (v.den ≤ 1000)
theorem mkV_red (ts : List Tm) (den : Int) : mkV ts den = if toldB (redV ts den) then some (redV ts den) else none := rfl
def IV (H : AHeap) (lo : Nat) (v : Value) (V : V) : Prop := ∃ sl, v = .agg #[.int .i64 V.den, sl] ∧ SlF H lo sl V.ts

theorem degreeG_ok (lim : Nat) (t : Tm) (H : AHeap) (h : exS t) : ACalls Try.prog lim n_impl_Term_degree [tv t] H fun v H' => v = .int .i64 (t.x + t.y + t.z) ∧ Ext H H' := by
  refine is_impl_Term_degree.go rfl ?_
  unfold c_impl_Term_degree
  unfold exS at h
  refine s_reg ?_
  simp only [o_pure, o_eff, o_nil, POp.ev, Opd.ev, EOp.ev, env0, gu, gv, setD, List.set, Option.some.injEq, exists_eq_left', boxT]
  have hB := BoxT.mk' H t
  generalize H.alloc (tc t) = H1 at hB ⊢
  generalize H.next = p at hB ⊢
  have hx := hB.ext
  have w1 : IntKind.i64.wrap (t.x + t.y) = t.x + t.y := by rw [IntKind.wrap_i64]; omega
  have w2 : IntKind.i64.wrap (t.x + t.y + t.z) = t.x + t.y + t.z := by rw [IntKind.wrap_i64]; omega
  refine s_reg ?_
  simp only [o_pure, o_nil, POp.ev, Opd.ev, gv, setD, List.set, Option.some.injEq, exists_eq_left', binV, load1V, fadV, ne_eq, not_true_eq_false, if_false, Nat.zero_add, hB.c1, hB.c2, hB.c3, w1, w2]
  refine s_ret1 ?_
  simp +decide only [p_fin_ret, resV, resOne, gv, Option.some.injEq, exists_eq_left']
  exact ⟨trivial, hx⟩

theorem told_ok (lim : Nat) (sl : Value) (X : V) (H : AHeap) (hl : lim ≤ H.next) (hs : SlT H sl X.ts) (hn : X.ts.length ≤ 100000) (hx : ∀ t ∈ X.ts, exS t) :
    ACalls Try.prog lim n_impl_value_told [.agg #[.int .i64 X.den, sl]] H fun v H' => v = .bool (toldB X) ∧ Ext H H' := by
  refine is_impl_value_told.go rfl ?_
  unfold c_impl_value_told
  refine s_reg ?_
  simp only [o_pure, o_eff, o_nil, POp.ev, Opd.ev, EOp.ev, env0, gu, gv, setD, List.set, Option.some.injEq, exists_eq_left', box2]
  have L1 := Own.mk' (Ext.refl H) [.int .i64 X.den, sl]
  generalize H.alloc [.int .i64 X.den, sl] = H1 at L1 ⊢
  generalize H.next = p1 at L1
  refine s_assoc (s_reg ?_)
  simp only [o_pure, o_nil, POp.ev, Opd.ev, gv, setD, List.set, Option.some.injEq, exists_eq_left', load1V, fadV, Nat.zero_add, L1.c1, hs.lenV]
  refine s_block ?_
  refine s_loop1 (fun k e' H' => ∃ (i : Nat) (x3 : Value), i + k = X.ts.length ∧ (∀ t ∈ X.ts.take i, okC t = true) ∧ Own H H' p1 [.int .i64 X.den, sl] ∧ e' = [.agg #[.int .i64 X.den, sl], pt p1, .bool false, x3, sl, .int .i64 X.ts.length, .int .i64 i]) X.ts.length ⟨0, _, by omega, by simp, L1, rfl⟩ ?_
  clear L1 H1
  rintro k e' H1 ⟨i, x3, hik, hok, L1, rfl⟩
  have hn1 := L1.ext.next
  refine s_test ?_
  simp only [o_pure, o_nil, POp.ev, Opd.ev, gv, setD, Option.some.injEq, exists_eq_left', binV, ne_eq, not_true_eq_false, if_false]
  refine Test.split (fun hlt => ?_) (fun hlt => ?_)
  · have hlt' : i < X.ts.length := by simpa using hlt
    obtain ⟨b1, o1, h1, hat⟩ := (hs.ext L1.ext).at hlt'
    have hmem := List.getElem_mem hlt'
    refine s_skip1 ?_
    simp +decide only [p_seq_normal]
    refine s_block ?_
    refine s_reg ?_
    simp only [o_pure, o_eff, o_nil, POp.ev, Opd.ev, EOp.ev, gv, setD, List.set, Option.some.injEq, exists_eq_left', h1, hat.all, store4_new (lim := lim) (H := H1) (by omega)]
    have hB := BoxT.mk' H1 X.ts[i]
    generalize H1.alloc (tc X.ts[i]) = H2 at hB ⊢
    generalize H1.next = q at hB
    refine s_test1_I (!okC X.ts[i]) (fun H' => Ext H2 H') ?_ (fun H3 hx3 hbad => ?_) (fun H3 hx3 hgood => ?_)
    · simp only [o_pure, o_callF, POp.ev, Opd.ev, gv, setD, List.map, Option.some.injEq, exists_eq_left', load1V, fadV, Nat.zero_add, hB.c0]
      refine (inside_ok _ _ _ _ _).eq ?_
      unfold okC
      cases hin : (decide (-1000000 ≤ X.ts[i].c) && decide (X.ts[i].c ≤ 1000000))
      · simp only [o_cont, o_pure, o_guard, gk_tf, o_nil, POp.ev, Opd.ev, gv, setD, Option.some.injEq, exists_eq_left', pickV, unV, Bool.not_false]
        simp [Ext.refl]
      · simp only [o_cont, o_pure, o_callF, o_guard, gk_ff, POp.ev, Opd.ev, gv, setD, List.map, Option.some.injEq, exists_eq_left', unV, Bool.not_true, hB.all]
        refine (degreeG_ok _ _ _ (hx _ hmem)).mono ?_
        rintro _ H3 ⟨rfl, hx3⟩
        simp only [o_cont, o_pure, o_guard, gk_ff, o_nil, POp.ev, Opd.ev, gv, setD, Option.some.injEq, exists_eq_left', pickV, binV, ne_eq, not_true_eq_false, if_false]
        simp [hx3]
    · refine s_reg ?_
      simp only [o_pure, o_nil, POp.ev, Opd.ev, setD, List.set, Option.some.injEq, exists_eq_left']
      refine s_ret1 ?_
      simp +decide only [p_seq_ret, p_block_ret, p_fin_ret, resV, resOne, gv, Option.some.injEq, exists_eq_left']
      refine ⟨?_, (L1.ext.trans hB.ext).trans hx3⟩
      have : X.ts.all okC = false := by
        rw [List.all_eq_false]
        exact ⟨_, hmem, by simpa using hbad⟩
      unfold toldB
      rw [this]
      rfl
    · refine s_skip1 ?_
      simp +decide only [p_seq_normal, p_block_normal]
      refine s_reg1 ?_
      simp only [o_pure, o_nil, POp.ev, Opd.ev, gv, setD, List.set, Option.some.injEq, exists_eq_left', binV, ne_eq, not_true_eq_false, if_false, add1 (i := i) (by omega)]
      simp +decide only [p_seq_normal]
      refine Round.mk (k - 1) (by omega) ⟨i + 1, _, by omega, ?_, (L1.step hB.ext).step hx3, rfl⟩
      intro t ht
      rw [List.take_succ_eq_append_getElem hlt'] at ht
      rcases List.mem_append.1 ht with ht | ht
      · exact hok t ht
      · rw [List.mem_singleton.1 ht]; simpa using hgood
  · have hge : i = X.ts.length := by simp at hlt; omega
    subst hge
    rw [List.take_length] at hok
    have hall : X.ts.all okC = true := List.all_eq_true.2 hok
    refine s_exit1 ?_
    simp +decide only [p_seq_normal, p_seq_exit, p_block_exit, reduceIte]
    refine s_reg ?_
    simp only [o_pure, o_nil, POp.ev, Opd.ev, gv, setD, List.set, Option.some.injEq, exists_eq_left', binV, load1V, fadV, ne_eq, not_true_eq_false, if_false, Nat.zero_add, L1.c0]
    refine s_ret1 ?_
    simp +decide only [p_fin_ret, resV, resOne, gv, Option.some.injEq, exists_eq_left']
    unfold toldB
    rw [hall]
    exact ⟨by simp, L1.ext⟩

theorem iKeep_ok (lim q : Nat) (s : ByteArray) (i d m : Int) (f t : Bool) (sl : Value) (X : V) (H : AHeap) (hq : lim ≤ q) (hqn : q < H.next) (hl : lim ≤ H.next) (h : IRd H q s i d m f t) (hs : SlT H sl X.ts) (hn : X.ts.length ≤ 100000) (hx : ∀ t ∈ X.ts, exS t) :
    ACalls Try.prog lim n_impl_reader_keep [pt q, .agg #[.int .i64 X.den, sl]] H fun v H' => v = .agg #[.int .i64 (if t && toldB X then X.den else 1), if t && toldB X then sl else .slice none 0 0] ∧ IRd H' q s i d m f (t && toldB X) ∧ Chg q H H' := by
  refine is_impl_reader_keep.go rfl ?_
  unfold c_impl_reader_keep
  refine s_reg ?_
  simp only [o_eff, o_nil, Opd.ev, EOp.ev, env0, gu, gv, setD, List.set, Option.some.injEq, exists_eq_left', box2]
  have L2 := Loc.mk' (Chg.refl q H) [.int .i64 X.den, sl]
  have hx1 := Ext.alloc H [.int .i64 X.den, sl]
  generalize H.alloc [.int .i64 X.den, sl] = H1 at L2 hx1 ⊢
  have L3 := Loc.mk' L2.chg [.int .i64 0, .slice none 0 0]
  have hne : H.next ≠ H1.next := by have := L2.lt; omega
  have hx2 := Ext.alloc H1 [.int .i64 0, .slice none 0 0]
  replace L2 := L2.ext hx2
  generalize H1.alloc [.int .i64 0, .slice none 0 0] = H2 at L2 L3 hx2 ⊢
  have hnx2 := hx2.next
  generalize H1.next = p3 at L3 hne hnx2 ⊢
  have hnx1 := hx1.next
  have hx12 := hx1.trans hx2
  have h2 := h.ext hx12 hqn
  have hnn := hx12.next
  generalize hp2 : H.next = p2 at L2 hne
  have hq2 := L2.lt
  have hq3 := L3.lt
  have hg3 := L3.ge
  -- told
  refine s_reg_cut (fun e' H' => ∃ G : AHeap, Ext H2 G ∧ IRd H' q s i d m f (t && toldB X) ∧ Chg q G H' ∧ e' = [pt q, .agg #[.int .i64 X.den, sl], pt p2, pt p3]) ?_ ?_
  · cases ht : t
    · subst ht
      obtain ⟨H4, e4, h4, c4⟩ := h2.s5 hq false
      simp only [o_pure, o_eff, o_guard, gk_ft, o_nil, POp.ev, Opd.ev, EOp.ev, gv, setD, Option.some.injEq, exists_eq_left', pickV, load1V, nilchkV, fadV, Nat.zero_add, h2.c5, e4]
      exact ⟨H2, Ext.refl _, by simpa using h4, c4, trivial⟩
    · subst ht
      simp only [o_pure, o_callF, o_guard, gk_tt, POp.ev, Opd.ev, gv, setD, List.map, Option.some.injEq, exists_eq_left', load1V, nilchkV, fadV, Nat.zero_add, h2.c5, L2.load2]
      refine (told_ok lim sl X H2 (by omega) (hs.ext hx12) hn hx).mono ?_
      rintro _ H3 ⟨rfl, hx3⟩
      have h3 := h2.ext hx3 (by omega)
      obtain ⟨H4, e4, h4, c4⟩ := h3.s5 hq (toldB X)
      simp only [o_cont, o_pure, o_eff, o_nil, POp.ev, Opd.ev, EOp.ev, gv, setD, Option.some.injEq, exists_eq_left', pickV, nilchkV, fadV, Nat.zero_add, e4]
      exact ⟨H3, hx3, by simpa using h4, c4, trivial⟩
  · rintro e' H4 ⟨G, hxG, h4, c4, rfl⟩
    have L24 := (L2.ext hxG).step c4 hqn
    have L34 := (L3.ext hxG).step c4 hqn
    have hn4 := c4.next
    have hnG := hxG.next
    refine s_test ?_
    simp only [o_pure, o_nil, POp.ev, Opd.ev, gv, setD, Option.some.injEq, exists_eq_left', load1V, nilchkV, unV, fadV, Nat.zero_add, h4.c5]
    cases hb : (t && toldB X)
    · refine Test.true_ ?_
      have hf : fillV [.int .i64 0, .slice none 0 0] [(0, 1, .int .i64 1)] = some [.int .i64 1, .slice none 0 0] := rfl
      obtain ⟨H5, e5, L5, c5, n5⟩ := L34.put2 hl (.int .i64 1) (.slice none 0 0)
      refine s_reg ?_
      simp only [o_pure, o_eff, o_nil, POp.ev, Opd.ev, EOp.ev, gv, setD, List.map, Option.map_some, Option.some.injEq, exists_eq_left', if_false, Bool.false_eq_true, hf, e5]
      refine s_ret1 ?_
      simp +decide only [p_seq_ret, p_fin_ret, resV, resOne, gv, Option.some.injEq, exists_eq_left', L5.load2]
      rw [hb] at h4
      exact ⟨trivial, h4.over c5 (by omega) (by omega), L5.chg⟩
    · refine Test.false_ (s_skip1 ?_)
      simp +decide only [p_seq_normal, reduceIte]
      obtain ⟨H5, e5, L5, c5, n5⟩ := L34.put2 hl (.int .i64 X.den) sl
      refine s_reg ?_
      simp only [o_pure, o_eff, o_nil, POp.ev, Opd.ev, EOp.ev, gv, setD, Option.some.injEq, exists_eq_left', L24.load2, e5]
      refine s_ret1 ?_
      simp +decide only [p_fin_ret, resV, resOne, gv, Option.some.injEq, exists_eq_left', L5.load2]
      rw [hb] at h4
      exact ⟨trivial, h4.over c5 (by omega) (by omega), L5.chg⟩

theorem reduced_ok (lim : Nat) (sl : Value) (ts : List Tm) (den : Int) (H : AHeap) (hl : lim ≤ H.next) (hs : SlT H sl ts) (hn : ts.length ≤ 10000) (hd : 0 < den ∧ den ≤ 1000000000) (hc : ∀ t ∈ ts, -1000000000000000000 ≤ t.c ∧ t.c ≤ 1000000000000000000) :
    ACalls Try.prog lim n_impl_reduced [.int .i64 den, sl] H fun v H' => IV H' H.next v (redV ts den) ∧ Ext H H' := by
  refine is_impl_reduced.go rfl ?_
  unfold c_impl_reduced
  refine s_reg ?_
  simp only [o_eff, o_nil, EOp.ev, env0, gu, setD, List.set, Option.some.injEq, exists_eq_left']
  have L2 := Own.mk' (Ext.refl H) [.int .i64 0, .slice none 0 0]
  generalize H.alloc [.int .i64 0, .slice none 0 0] = H1 at L2 ⊢
  generalize hp2 : H.next = p2 at L2
  refine s_reg ?_
  simp only [o_pure, o_nil, POp.ev, Opd.ev, gv, setD, List.set, Option.some.injEq, exists_eq_left']
  refine s_assoc (s_reg ?_)
  simp only [o_pure, o_nil, POp.ev, Opd.ev, gv, setD, List.set, Option.some.injEq, exists_eq_left', hs.lenV]
  refine s_block ?_
  refine s_loop1 (fun k e' H' => ∃ (i : Nat) (g : Int) (x4 x5 x6 y10 y11 y12 : Value), i + k = ts.length ∧ gcdL den ts = gcdL g (ts.drop i) ∧ 0 < g ∧ g ≤ den ∧ Own H H' p2 [.int .i64 0, .slice none 0 0] ∧
    e' = [.int .i64 den, sl, pt p2, .int .i64 g, x4, x5, x6, sl, .int .i64 ts.length, .int .i64 i, y10, y11, y12]) ts.length ⟨0, den, _, _, _, _, _, _, by omega, rfl, hd.1, Int.le_refl _, L2, rfl⟩ ?_
  clear L2 H1
  rintro k e' H1 ⟨i, g, x4, x5, x6, y10, y11, y12, hik, hall, hgp, hgd, L2, rfl⟩
  have hn1 := L2.ext.next
  refine s_test ?_
  simp only [o_pure, o_nil, POp.ev, Opd.ev, gv, setD, Option.some.injEq, exists_eq_left', binV, ne_eq, not_true_eq_false, if_false]
  refine Test.split (fun hlt => ?_) (fun hlt => ?_)
  · have hlt' : i < ts.length := by simpa using hlt
    obtain ⟨b1, o1, h1, hat⟩ := (hs.ext L2.ext).at hlt'
    have hci := hc _ (List.getElem_mem hlt')
    rw [List.drop_eq_getElem_cons hlt', gcdL_cons] at hall
    refine s_skip1 ?_
    simp +decide only [p_seq_normal]
    refine s_block ?_
    refine s_reg ?_
    simp only [o_pure, o_eff, o_nil, POp.ev, Opd.ev, EOp.ev, gv, setD, List.set, Option.some.injEq, exists_eq_left', h1, hat.all, store4_new (lim := lim) (H := H1) (by omega)]
    have hB := BoxT.mk' H1 ts[i]
    generalize H1.alloc (tc ts[i]) = H2 at hB ⊢
    generalize H1.next = q at hB
    refine s_reg1 ?_
    simp only [o_pure, o_callF, POp.ev, Opd.ev, gv, setD, List.map, Option.some.injEq, exists_eq_left', load1V, fadV, Nat.zero_add, hB.c0]
    refine (gcd_ok _ _ _ _ (by omega) (by omega)).eq ?_
    simp only [o_cont, o_pure, o_nil, POp.ev, Opd.ev, gv, setD, List.set, Option.some.injEq, exists_eq_left']
    simp +decide only [p_seq_normal, p_block_normal]
    refine s_reg1 ?_
    simp only [o_pure, o_nil, POp.ev, Opd.ev, gv, setD, List.set, Option.some.injEq, exists_eq_left', binV, ne_eq, not_true_eq_false, if_false, add1 (i := i) (by omega)]
    simp +decide only [p_seq_normal]
    have hgz : 0 < (Int.gcd g ts[i].c : Int) := by
      have : Int.gcd g ts[i].c ≠ 0 := by
        intro h0
        have := (Int.gcd_eq_zero_iff.1 h0).1
        omega
      omega
    have hgl : (Int.gcd g ts[i].c : Int) ≤ g := Int.le_of_dvd hgp (Int.gcd_dvd_left ..)
    exact Round.mk (k - 1) (by omega) ⟨i + 1, _, _, _, _, _, _, _, by omega, hall, hgz, by omega, L2.step hB.ext, rfl⟩
  · have hge : i = ts.length := by simp at hlt; omega
    subst hge
    rw [List.drop_length] at hall
    have hG : gcdL den ts = g := hall
    clear hall
    have hgz : (g = 0) = False := by simp; omega
    refine s_exit1 ?_
    simp +decide only [p_seq_normal, p_seq_exit, p_block_exit, reduceIte]
    refine s_reg ?_
    simp only [o_pure, o_nil, POp.ev, Opd.ev, setD, List.set, Option.some.injEq, exists_eq_left']
    refine s_assoc (s_reg ?_)
    simp only [o_pure, o_nil, POp.ev, Opd.ev, gv, setD, List.set, Option.some.injEq, exists_eq_left', hs.lenV]
    have hlt2 := L2.lt
    refine s_block ?_
    refine s_loop1 (fun k e' H' => ∃ (i b : Nat) (so x4 x6 y7 y8 y9 : Value), i + k = ts.length ∧ Own H H' p2 [.int .i64 0, .slice none 0 0] ∧ VecT H' b so ((ts.take i).map (divT g)) ∧ H.next ≤ b ∧ b ≠ p2 ∧
      e' = [.int .i64 den, sl, pt p2, .int .i64 g, x4, so, x6, y7, y8, y9, sl, .int .i64 ts.length, .int .i64 i]) ts.length ⟨0, p2 + H.next + 1, _, _, _, _, _, _, by omega, L2, vecT_nil _ _, by omega, by omega, rfl⟩ ?_
    clear L2 hn1 hlt2 H1
    rintro k e' H1 ⟨i, b, so, x4, x6, y7, y8, y9, hik, L2, hv, hb, hb2, rfl⟩
    have hn1 := L2.ext.next
    refine s_test ?_
    simp only [o_pure, o_nil, POp.ev, Opd.ev, gv, setD, Option.some.injEq, exists_eq_left', binV, ne_eq, not_true_eq_false, if_false]
    refine Test.split (fun hlt => ?_) (fun hlt => ?_)
    · have hlt' : i < ts.length := by simpa using hlt
      obtain ⟨b1, o1, h1, hat⟩ := (hs.ext L2.ext).at hlt'
      have hci := hc _ (List.getElem_mem hlt')
      have htr := tdiv_in (g := g) hci
      have hwc : IntKind.i64.wrap (ts[i].c.tdiv g) = ts[i].c.tdiv g := W_of_in (by unfold inR; omega)
      refine s_skip1 ?_
      simp +decide only [p_seq_normal]
      refine s_block ?_
      refine s_reg ?_
      simp only [o_pure, o_eff, o_nil, POp.ev, Opd.ev, EOp.ev, gv, setD, List.set, Option.some.injEq, exists_eq_left', h1, hat.all, store4_new (lim := lim) (H := H1) (by omega)]
      have hB := BoxT.mk' H1 ts[i]
      generalize H1.alloc (tc ts[i]) = H2 at hB ⊢
      generalize H1.next = q at hB
      obtain ⟨cs4, t4, hB4⟩ := hB.put0 (lim := lim) (by have := hB.ge; have := L2.ext.next; have := hB.ext.next; omega) (ts[i].c.tdiv g)
      refine s_reg ?_
      simp only [o_pure, o_eff, o_nil, POp.ev, Opd.ev, EOp.ev, gv, setD, Option.some.injEq, exists_eq_left', binV, load1V, fadV, ne_eq, not_true_eq_false, if_false, Nat.zero_add, hB.c0, hgz, hwc, t4]
      generalize H2.put q cs4 = H4 at hB4 ⊢
      clear t4 hB cs4 H2
      have hall4 : loadNV H4 4 (.pointer (some ⟨q, 0, none⟩)) = some (tv (divT g ts[i])) := hB4.all
      have hbs : ∀ t : Tm, bsliceH H4 1 [.int .i64 0, .int .i64 0, .int .i64 0, .int .i64 0] [(0, 4, tv t)] = some (.slice (some ⟨H4.next, 0, some 0⟩) 1 1, H4.alloc (tc t)) := fun t => rfl
      replace L2 := L2.step hB4.ext
      replace hv := VecT.ext hv hB4.ext
      have hlt4 := L2.lt
      have hn4 := L2.ext.next
      obtain ⟨v', H6, b', e6, hv6, hb6', hlt6, c6⟩ := pushT (lim := lim) hv (divT g ts[i]) (by omega) (by simp; omega)
      refine s_reg1 ?_
      simp only [o_pure, o_eff, o_nil, POp.ev, Opd.ev, EOp.ev, gv, setD, List.set, List.map, Option.some.injEq, exists_eq_left', hall4, hbs, e6]
      simp +decide only [p_seq_normal, p_block_normal]
      refine s_reg1 ?_
      simp only [o_pure, o_nil, POp.ev, Opd.ev, gv, setD, List.set, Option.some.injEq, exists_eq_left', binV, ne_eq, not_true_eq_false, if_false, add1 (i := i) (by omega)]
      simp +decide only [p_seq_normal]
      refine Round.mk (k - 1) (by omega) ⟨i + 1, b', _, _, _, _, _, _, by omega, L2.other c6 (Ne.symm hb2) hb, ?_, ?_, ?_, rfl⟩
      · rw [List.take_succ_eq_append_getElem hlt', List.map_append]
        exact hv6
      · rcases hb6' with h | h <;> omega
      · rcases hb6' with h | h <;> omega
    · have hge : i = ts.length := by simp at hlt; omega
      subst hge
      rw [List.take_length] at hv
      refine s_exit1 ?_
      simp +decide only [p_seq_normal, p_seq_exit, p_block_exit, reduceIte]
      have hdr := tdiv_in (c := den) (g := g) (by omega)
      have hwd : IntKind.i64.wrap (den.tdiv g) = den.tdiv g := W_of_in (by unfold inR; omega)
      have hf : fillV [.int .i64 0, .slice none 0 0] [(0, 1, .int .i64 (den.tdiv g)), (1, 1, so)] = some [.int .i64 (den.tdiv g), so] := fill2 rfl (VecT.cell hv)
      obtain ⟨H5, e5, L5, c5, n5⟩ := L2.put2 hl (.int .i64 (den.tdiv g)) so
      refine s_reg ?_
      simp only [o_pure, o_eff, o_nil, POp.ev, Opd.ev, EOp.ev, gv, setD, List.map, Option.map_some, Option.some.injEq, exists_eq_left', binV, ne_eq, not_true_eq_false, if_false, hgz, hwd, hf, e5]
      refine s_ret1 ?_
      simp +decide only [p_fin_ret, resV, resOne, gv, Option.some.injEq, exists_eq_left', L5.load2]
      unfold redV
      rw [hG]
      exact ⟨⟨so, rfl, SlF.of (VecT.chg hv c5 hb2) (by omega)⟩, L5.ext⟩
end Go.Proofs.Ytaimceodhhgnnaa

/- The reader of expressions, implementation: sums and products of values; no condition beyond stated ranges. -/
namespace Go.Proofs.Ytaimceodhhgnnaa
open Go.Ab
set_option linter.unusedSimpArgs false
set_option linter.unusedVariables false

def addM (A B : V) (n : Int) : List Tm := A.ts.map (scl B.den) ++ B.ts.map (scl (n * A.den))
theorem addM_mem {a b : V} {n : Int} {t : Tm} (h : t ∈ addM a b n) : (∃ u ∈ a.ts, t = scl b.den u) ∨ ∃ u ∈ b.ts, t = scl (n * a.den) u := by
  rcases List.mem_append.1 h with h | h
  · obtain ⟨u, hu, rfl⟩ := List.mem_map.1 h; exact .inl ⟨u, hu, rfl⟩
  · obtain ⟨u, hu, rfl⟩ := List.mem_map.1 h; exact .inr ⟨u, hu, rfl⟩
theorem addM_bnd {a b : V} (ha : Good a) (hb : Good b) {n : Int} (hn : n = 1 ∨ n = -1) : ∀ t ∈ addM a b n, (-1000000000 ≤ t.c ∧ t.c ≤ 1000000000) ∧ E 4 t := by
  have hA := ha.den
  have hB := hb.den
  intro t ht
  rcases addM_mem ht with ⟨u, hu, rfl⟩ | ⟨u, hu, rfl⟩
  · exact ⟨mul_bnd (ha.ok u hu).1 (by omega), ha.E u hu⟩
  · refine ⟨mul_bnd (hb.ok u hu).1 ?_, hb.E u hu⟩
    rcases hn with rfl | rfl <;> omega
theorem addM_length {a b : V} (ha : Good a) (hb : Good b) (n : Int) : (addM a b n).length ≤ 170 := by
  have h1 := ha.len
  have h2 := hb.len
  unfold addM
  simp
  omega

theorem plus_ok (lim : Nat) (sa sb : Value) (A B : V) (n : Int) (H : AHeap) (hl : lim ≤ H.next) (hsa : SlT H sa A.ts) (hsb : SlT H sb B.ts) (hA : Good A) (hB : Good B) (hn : n = 1 ∨ n = -1) :
    ACalls Try.prog lim n_impl_value_plus [.agg #[.int .i64 A.den, sa], .agg #[.int .i64 B.den, sb], .int .i64 n] H fun v H' => IV H' H.next v (redV (coll (addM A B n)) (A.den * B.den)) ∧ Ext H H' := by
  refine is_impl_value_plus.go rfl ?_
  unfold c_impl_value_plus
  have hbnd := addM_bnd hA hB hn
  have hlen := addM_length hA hB n
  obtain ⟨hcoll, hbn⟩ := put_bn (fun t ht => (hbnd t ht).1) (fun t ht => (hbnd t ht).2) (by omega) (by omega) (by omega)
  have hAd := hA.den
  have hBd := hB.den
  have hAl := hA.len
  have hBl := hB.len
  refine s_reg ?_
  simp only [o_eff, o_nil, Opd.ev, EOp.ev, env0, gu, gv, setD, List.set, Option.some.injEq, exists_eq_left', box2]
  have L3 := Own.mk' (Ext.refl H) [.int .i64 A.den, sa]
  generalize H.alloc [.int .i64 A.den, sa] = H1 at L3 ⊢
  have hq3 := L3.lt
  have L4 := Own.mk' L3.ext [.int .i64 B.den, sb]
  replace L3 := L3.step (Ext.alloc H1 [.int .i64 B.den, sb])
  generalize H1.alloc [.int .i64 B.den, sb] = H2 at L3 L4 ⊢
  have hq4 := L4.lt
  have L5 := Own.mk' L4.ext [.int .i64 0, .slice none 0 0]
  replace L3 := L3.step (Ext.alloc H2 [.int .i64 0, .slice none 0 0])
  replace L4 := L4.step (Ext.alloc H2 [.int .i64 0, .slice none 0 0])
  generalize H2.alloc [.int .i64 0, .slice none 0 0] = H3 at L3 L4 L5 ⊢
  generalize hp3 : H.next = p3 at L3 hq3
  generalize H1.next = p4 at L4 hq3 hq4
  generalize H2.next = p5 at L5 hq4
  refine s_reg ?_
  simp only [o_pure, o_nil, POp.ev, Opd.ev, setD, List.set, Option.some.injEq, exists_eq_left']
  refine s_assoc (s_reg ?_)
  simp only [o_pure, o_nil, POp.ev, Opd.ev, gv, setD, List.set, Option.some.injEq, exists_eq_left', load1V, fadV, Nat.zero_add, L3.c1, hsa.lenV]
  have hx0 := L5.lt
  refine s_block ?_
  refine s_loop1 (fun k e' H' => ∃ (i b : Nat) (so x7 x8 x12 x13 x14 : Value), i + k = A.ts.length ∧ VecT H' b so ((A.ts.take i).map (scl B.den)) ∧ H.next ≤ b ∧ b ≠ p3 ∧ b ≠ p4 ∧ b ≠ p5 ∧ Own H H' p3 [.int .i64 A.den, sa] ∧ Own H H' p4 [.int .i64 B.den, sb] ∧ Own H H' p5 [.int .i64 0, .slice none 0 0] ∧
    e' = [.agg #[.int .i64 A.den, sa], .agg #[.int .i64 B.den, sb], .int .i64 n, pt p3, pt p4, pt p5, so, x7, x8, sa, .int .i64 A.ts.length, .int .i64 i, x12, x13, x14]) A.ts.length ⟨0, H.next + p3 + p4 + p5 + 1, _, _, _, _, _, _, by omega, vecT_nil _ _, by omega, by omega, by omega, by omega, L3, L4, L5, rfl⟩ ?_
  clear L3 L4 L5 hx0 H1 H2 H3
  rintro k e' H3 ⟨i, b, so, x7, x8, x12, x13, x14, hik, hv, hb0, hb3, hb4, hb5, L3, L4, L5, rfl⟩
  have hnx3 := L3.ext.next
  refine s_test ?_
  simp only [o_pure, o_nil, POp.ev, Opd.ev, gv, setD, Option.some.injEq, exists_eq_left', binV, ne_eq, not_true_eq_false, if_false]
  refine Test.split (fun hlt => ?_) (fun hlt => ?_)
  · have hlt' : i < A.ts.length := by simpa using hlt
    obtain ⟨b1, o1, h1, hat⟩ := (hsa.ext L3.ext).at hlt'
    have hmem := List.getElem_mem hlt'
    have hcb := (hbnd (scl B.den A.ts[i]) (List.mem_append.2 (.inl (List.mem_map_of_mem hmem)))).1
    have hwc : IntKind.i64.wrap (A.ts[i].c * B.den) = (scl B.den A.ts[i]).c := W_of_in (a := (scl B.den A.ts[i]).c) (by unfold inR; omega)
    refine s_skip1 ?_
    simp +decide only [p_seq_normal]
    refine s_block ?_
    refine s_reg ?_
    simp only [o_pure, o_eff, o_nil, POp.ev, Opd.ev, EOp.ev, gv, setD, List.set, Option.some.injEq, exists_eq_left', h1, hat.all, store4_new (lim := lim) (H := H3) (by omega)]
    have hBx := BoxT.mk' H3 A.ts[i]
    generalize H3.alloc (tc A.ts[i]) = H4 at hBx ⊢
    generalize hq : H3.next = q at hBx
    obtain ⟨cs4, t4, hB4⟩ := hBx.put0 (lim := lim) (by omega) (scl B.den A.ts[i]).c
    have L44 := L4.step hBx.ext
    refine s_reg ?_
    simp only [o_pure, o_eff, o_nil, POp.ev, Opd.ev, EOp.ev, gv, setD, Option.some.injEq, exists_eq_left', binV, load1V, fadV, ne_eq, not_true_eq_false, if_false, Nat.zero_add, hBx.c0, L44.c0, hwc, t4]
    generalize H4.put q cs4 = H5 at hB4 ⊢
    clear t4 hBx cs4 L44 H4
    have hall : loadNV H5 4 (.pointer (some ⟨q, 0, none⟩)) = some (tv (scl B.den A.ts[i])) := hB4.all
    have hbs : ∀ t : Tm, bsliceH H5 1 [.int .i64 0, .int .i64 0, .int .i64 0, .int .i64 0] [(0, 4, tv t)] = some (.slice (some ⟨H5.next, 0, some 0⟩) 1 1, H5.alloc (tc t)) := fun t => rfl
    have hx5 := hB4.ext
    have hnx5 := hx5.next
    have hl3 := L3.lt
    have hl4 := L4.lt
    have hl5 := L5.lt
    obtain ⟨v', H6, b', e6, hv6, hb6', hlt6, c6⟩ := pushT (lim := lim) (VecT.ext hv hx5) (scl B.den A.ts[i]) (by omega) (by rw [List.length_map, List.length_take]; omega)
    refine s_reg1 ?_
    simp only [o_pure, o_eff, o_nil, POp.ev, Opd.ev, EOp.ev, gv, setD, List.set, List.map, Option.some.injEq, exists_eq_left', hall, hbs, e6]
    simp +decide only [p_seq_normal, p_block_normal]
    refine s_reg1 ?_
    simp only [o_pure, o_nil, POp.ev, Opd.ev, gv, setD, List.set, Option.some.injEq, exists_eq_left', binV, ne_eq, not_true_eq_false, if_false, add1 (i := i) (by omega)]
    simp +decide only [p_seq_normal]
    refine Round.mk (k - 1) (by omega) ⟨i + 1, b', _, _, _, _, _, _, by omega, ?_, by rcases hb6' with h | h <;> omega, by rcases hb6' with h | h <;> omega, by rcases hb6' with h | h <;> omega, by rcases hb6' with h | h <;> omega, (L3.step hx5).other c6 (Ne.symm hb3) hb0, (L4.step hx5).other c6 (Ne.symm hb4) hb0, (L5.step hx5).other c6 (Ne.symm hb5) hb0, rfl⟩
    rw [List.take_succ_eq_append_getElem hlt', List.map_append]
    exact hv6
  · have hge : i = A.ts.length := by simp at hlt; omega
    subst hge
    rw [List.take_length] at hv
    refine s_exit1 ?_
    simp +decide only [p_seq_normal, p_seq_exit, p_block_exit, reduceIte]
    refine s_assoc (s_reg ?_)
    simp only [o_pure, o_nil, POp.ev, Opd.ev, gv, setD, List.set, Option.some.injEq, exists_eq_left', load1V, fadV, Nat.zero_add, L4.c1, hsb.lenV]
    have w3 : IntKind.i64.wrap (n * A.den) = n * A.den := W_of_in (by unfold inR; rcases hn with rfl | rfl <;> omega)
    refine s_block ?_
    refine s_loop1 (fun k e' H' => ∃ (i b : Nat) (so x7 x8 : Value), i + k = B.ts.length ∧ VecT H' b so (A.ts.map (scl B.den) ++ (B.ts.take i).map (scl (n * A.den))) ∧ H.next ≤ b ∧ b ≠ p3 ∧ b ≠ p4 ∧ b ≠ p5 ∧ Own H H' p3 [.int .i64 A.den, sa] ∧ Own H H' p4 [.int .i64 B.den, sb] ∧ Own H H' p5 [.int .i64 0, .slice none 0 0] ∧
      e' = [.agg #[.int .i64 A.den, sa], .agg #[.int .i64 B.den, sb], .int .i64 n, pt p3, pt p4, pt p5, so, x7, x8, sa, .int .i64 A.ts.length, .int .i64 A.ts.length, sb, .int .i64 B.ts.length, .int .i64 i]) B.ts.length ⟨0, b, _, _, _, by omega, by simpa using hv, hb0, hb3, hb4, hb5, L3, L4, L5, rfl⟩ ?_
    clear L3 L4 L5 hv hnx3 hb0 hb3 hb4 hb5 H3
    rintro k e' H3 ⟨i, b, so, x7, x8, hik, hv, hb0, hb3, hb4, hb5, L3, L4, L5, rfl⟩
    have hnx3 := L3.ext.next
    refine s_test ?_
    simp only [o_pure, o_nil, POp.ev, Opd.ev, gv, setD, Option.some.injEq, exists_eq_left', binV, ne_eq, not_true_eq_false, if_false]
    refine Test.split (fun hlt => ?_) (fun hlt => ?_)
    · have hlt' : i < B.ts.length := by simpa using hlt
      obtain ⟨b1, o1, h1, hat⟩ := (hsb.ext L4.ext).at hlt'
      have hmem := List.getElem_mem hlt'
      have hcb := (hbnd (scl (n * A.den) B.ts[i]) (List.mem_append.2 (.inr (List.mem_map_of_mem hmem)))).1
      have hwc : IntKind.i64.wrap (B.ts[i].c * (n * A.den)) = (scl (n * A.den) B.ts[i]).c := W_of_in (a := (scl (n * A.den) B.ts[i]).c) (by unfold inR; omega)
      refine s_skip1 ?_
      simp +decide only [p_seq_normal]
      refine s_block ?_
      refine s_reg ?_
      simp only [o_pure, o_eff, o_nil, POp.ev, Opd.ev, EOp.ev, gv, setD, List.set, Option.some.injEq, exists_eq_left', h1, hat.all, store4_new (lim := lim) (H := H3) (by omega)]
      have hBx := BoxT.mk' H3 B.ts[i]
      generalize H3.alloc (tc B.ts[i]) = H4 at hBx ⊢
      generalize hq : H3.next = q at hBx
      obtain ⟨cs4, t4, hB4⟩ := hBx.put0 (lim := lim) (by omega) (scl (n * A.den) B.ts[i]).c
      have L34 := L3.step hBx.ext
      refine s_reg ?_
      simp only [o_pure, o_eff, o_nil, POp.ev, Opd.ev, EOp.ev, gv, setD, Option.some.injEq, exists_eq_left', binV, load1V, fadV, ne_eq, not_true_eq_false, if_false, Nat.zero_add, hBx.c0, L34.c0, w3, hwc, t4]
      generalize H4.put q cs4 = H5 at hB4 ⊢
      clear t4 hBx cs4 L34 H4
      have hall : loadNV H5 4 (.pointer (some ⟨q, 0, none⟩)) = some (tv (scl (n * A.den) B.ts[i])) := hB4.all
      have hbs : ∀ t : Tm, bsliceH H5 1 [.int .i64 0, .int .i64 0, .int .i64 0, .int .i64 0] [(0, 4, tv t)] = some (.slice (some ⟨H5.next, 0, some 0⟩) 1 1, H5.alloc (tc t)) := fun t => rfl
      have hx5 := hB4.ext
      have hnx5 := hx5.next
      have hl3 := L3.lt
      have hl4 := L4.lt
      have hl5 := L5.lt
      obtain ⟨v', H6, b', e6, hv6, hb6', hlt6, c6⟩ := pushT (lim := lim) (VecT.ext hv hx5) (scl (n * A.den) B.ts[i]) (by omega) (by rw [List.length_append, List.length_map, List.length_map, List.length_take]; omega)
      refine s_reg1 ?_
      simp only [o_pure, o_eff, o_nil, POp.ev, Opd.ev, EOp.ev, gv, setD, List.set, List.map, Option.some.injEq, exists_eq_left', hall, hbs, e6]
      simp +decide only [p_seq_normal, p_block_normal]
      refine s_reg1 ?_
      simp only [o_pure, o_nil, POp.ev, Opd.ev, gv, setD, List.set, Option.some.injEq, exists_eq_left', binV, ne_eq, not_true_eq_false, if_false, add1 (i := i) (by omega)]
      simp +decide only [p_seq_normal]
      refine Round.mk (k - 1) (by omega) ⟨i + 1, b', _, _, _, by omega, ?_, by rcases hb6' with h | h <;> omega, by rcases hb6' with h | h <;> omega, by rcases hb6' with h | h <;> omega, by rcases hb6' with h | h <;> omega, (L3.step hx5).other c6 (Ne.symm hb3) hb0, (L4.step hx5).other c6 (Ne.symm hb4) hb0, (L5.step hx5).other c6 (Ne.symm hb5) hb0, rfl⟩
      rw [List.take_succ_eq_append_getElem hlt', List.map_append, ← List.append_assoc]
      exact hv6
    · have hge : i = B.ts.length := by simp at hlt; omega
      subst hge
      rw [List.take_length] at hv
      refine s_exit1 ?_
      simp +decide only [p_seq_normal, p_seq_exit, p_block_exit, reduceIte]
      have hv' : VecT H3 b so (addM A B n) := hv
      have hdm : 1 ≤ A.den * B.den ∧ A.den * B.den ≤ 1000000 := by
        have h1 := Int.mul_pos (show 0 < A.den by omega) (show 0 < B.den by omega)
        have h2 := Int.mul_le_mul hAd.2 hBd.2 (by omega) (by omega)
        omega
      have wm : IntKind.i64.wrap (A.den * B.den) = A.den * B.den := W_of_in (by unfold inR; omega)
      refine s_reg ?_
      simp only [o_pure, o_callN, POp.ev, Opd.ev, gv, setD, List.map, Option.some.injEq, exists_eq_left', binV, load1V, fadV, ne_eq, not_true_eq_false, if_false, Nat.zero_add, L3.c0, L4.c0, wm]
      refine (collectG_ok H3.next so _ H3 (Nat.le_refl _) (Vec.sl hv') (by omega)).weaken.mono ?_
      rintro vc H4 ⟨⟨bc, hbc1, hbc2, hvc, hx4⟩, _⟩
      have hn4 := hx4.next
      have hcl := coll_length (addM A B n)
      simp only [o_cont, o_callF, Opd.ev, gv, setD, List.map]
      refine (reduced_ok lim vc _ _ H4 (by omega) (Vec.sl hvc) (by omega) (by omega) (fun t ht => (hbn t (by rw [hcoll]; exact ht)).1)).mono ?_
      rintro _ H5 ⟨⟨sl, rfl, fS⟩, hx5⟩
      have hl5 := L5.lt
      obtain ⟨H6, e6, L6, c6, n6⟩ := ((L5.step hx4).step hx5).put2 hl (.int .i64 (redV (coll (addM A B n)) (A.den * B.den)).den) sl
      simp only [o_cont, o_eff, o_nil, Opd.ev, EOp.ev, gv, setD, Option.some.injEq, exists_eq_left', e6]
      refine s_ret1 ?_
      simp +decide only [p_fin_ret, resV, resOne, gv, Option.some.injEq, exists_eq_left', L6.load2]
      exact ⟨⟨sl, rfl, (fS.chg c6 (.inl (by omega))).low (by omega)⟩, L6.ext⟩

theorem times_ok (lim : Nat) (sa sb : Value) (A B : V) (H : AHeap) (hl : lim ≤ H.next) (hsa : SlT H sa A.ts) (hsb : SlT H sb B.ts) (hA : Good A) (hB : Good B) :
    ACalls Try.prog lim n_impl_value_times [.agg #[.int .i64 A.den, sa], .agg #[.int .i64 B.den, sb]] H fun v H' => IV H' H.next v (redV (coll (prodL A.ts B.ts)) (A.den * B.den)) ∧ Ext H H' := by
  refine is_impl_value_times.go rfl ?_
  unfold c_impl_value_times
  have hbnd := prod_bnd hA hB
  have hlen := prod_len hA hB
  obtain ⟨hcoll, hbn⟩ := put_bn (fun t ht => (hbnd t ht).1) (fun t ht => (hbnd t ht).2) (by omega) (by omega) (by omega)
  have hAd := hA.den
  have hBd := hB.den
  have hAl := hA.len
  have hBl := hB.len
  refine s_reg ?_
  simp only [o_eff, o_nil, Opd.ev, EOp.ev, env0, gu, gv, setD, List.set, Option.some.injEq, exists_eq_left', box2]
  have L3 := Own.mk' (Ext.refl H) [.int .i64 A.den, sa]
  generalize H.alloc [.int .i64 A.den, sa] = H1 at L3 ⊢
  have L4 := Own.mk' L3.ext [.int .i64 B.den, sb]
  replace L3 := L3.step (Ext.alloc H1 [.int .i64 B.den, sb])
  generalize H1.alloc [.int .i64 B.den, sb] = H2 at L3 L4 ⊢
  have L5 := Own.mk' L4.ext [.int .i64 0, .slice none 0 0]
  replace L3 := L3.step (Ext.alloc H2 [.int .i64 0, .slice none 0 0])
  replace L4 := L4.step (Ext.alloc H2 [.int .i64 0, .slice none 0 0])
  generalize H2.alloc [.int .i64 0, .slice none 0 0] = H3 at L3 L4 L5 ⊢
  have hn3 := L5.ext.next
  have hl5 := L5.lt
  generalize hp3 : H.next = p3 at L3
  generalize H1.next = p4 at L4
  generalize H2.next = p5 at L5 hl5
  have hdm : 1 ≤ A.den * B.den ∧ A.den * B.den ≤ 1000000 := by
    have h1 := Int.mul_pos (show 0 < A.den by omega) (show 0 < B.den by omega)
    have h2 := Int.mul_le_mul hAd.2 hBd.2 (by omega) (by omega)
    omega
  have wm : IntKind.i64.wrap (A.den * B.den) = A.den * B.den := W_of_in (by unfold inR; omega)
  refine s_reg ?_
  simp only [o_pure, o_callN, POp.ev, Opd.ev, gv, setD, List.map, Option.some.injEq, exists_eq_left', binV, load1V, fadV, ne_eq, not_true_eq_false, if_false, Nat.zero_add, L3.c0, L3.c1, L4.c0, L4.c1, wm]
  refine (multiplyTerms_ok H3.next sa sb A.ts B.ts H3 (Nat.le_refl _) (hsa.ext L3.ext) (hsb.ext L3.ext) (by omega) (by omega) (fun t ht => (hA.E t ht).exS (by omega)) (fun t ht => (hB.E t ht).exS (by omega))).weaken.mono ?_
  rintro vc H4 ⟨⟨bc, hbc1, hbc2, hvc, hx4⟩, _⟩
  have hn4 := hx4.next
  have hcl := coll_length (prodL A.ts B.ts)
  simp only [o_cont, o_callF, Opd.ev, gv, setD, List.map]
  refine (reduced_ok lim vc _ _ H4 (by omega) (Vec.sl hvc) (by omega) (by omega) (fun t ht => (hbn t (by rw [hcoll]; exact ht)).1)).mono ?_
  rintro _ H5 ⟨⟨sl, rfl, fS⟩, hx5⟩
  obtain ⟨H6, e6, L6, c6, n6⟩ := ((L5.step hx4).step hx5).put2 hl (.int .i64 (redV (coll (prodL A.ts B.ts)) (A.den * B.den)).den) sl
  simp only [o_cont, o_eff, o_nil, Opd.ev, EOp.ev, gv, setD, Option.some.injEq, exists_eq_left', e6]
  refine s_ret1 ?_
  simp +decide only [p_fin_ret, resV, resOne, gv, Option.some.injEq, exists_eq_left', L6.load2]
  exact ⟨⟨sl, rfl, (fS.chg c6 (.inl (by omega))).low (by omega)⟩, L6.ext⟩
end Go.Proofs.Ytaimceodhhgnnaa

/- The reader of expressions, implementation: bases; no condition beyond stated ranges. -/
namespace Go.Proofs.Ytaimceodhhgnnaa
open Go.Ab
set_option linter.unusedSimpArgs false
set_option linter.unusedVariables false

/-- what a reading answers: where there is none, it doesn't fit or stands at a digit; where a value is too great, it isn't told -/
def ResI (s : ByteArray) (q : Nat) (d : Int) (H0 : AHeap) (r : Option (St × V)) (v : Value) (H' : AHeap) : Prop :=
  Chg q H0 H' ∧ ∃ (X : V) (i' : Nat) (d' m' : Int) (f' t' : Bool), Good X ∧ IV H' H0.next v X ∧ i' ≤ s.size ∧ IRd H' q s i' d' m' f' t' ∧ (match r with
    | some r => f' = true ∧ i' = r.1.i ∧ d' = d ∧ m' = r.1.most ∧ t' = !r.1.large ∧ (r.1.large = false → X = r.2)
    | none => f' = false ∨ isD (ch s i') = true)
def IOk (lim q : Nat) (s : ByteArray) (d : Int) (f : FuncId) (F : PF) : Prop :=
  ∀ (H : AHeap) (st : St), lim ≤ H.next → q < H.next → st.i ≤ s.size → IRd H q s st.i d st.most true (!st.large) → ACalls Try.prog lim f [pt q] H (ResI s q d H (F st))
theorem ResI.cases {s : ByteArray} {q : Nat} {d : Int} {H0 H' : AHeap} {F : PF} {st : St} {v : Value} (hadv : Adv s F) (h : ResI s q d H0 (F st) v H') :
    Chg q H0 H' ∧ ∃ (X : V) (sl : Value) (i6 : Nat) (d6 m6 : Int) (f6 t6 : Bool), v = .agg #[.int .i64 X.den, sl] ∧ Good X ∧ SlF H' H0.next sl X.ts ∧ IRd H' q s i6 d6 m6 f6 t6 ∧ i6 ≤ s.size ∧
      ((F st = none ∧ (f6 = false ∨ isD (ch s i6) = true)) ∨ (∃ (l6 : Bool) (Y : V), F st = some (⟨i6, m6, l6⟩, Y) ∧ f6 = true ∧ d6 = d ∧ t6 = !l6 ∧ st.i < i6 ∧ Good Y ∧ (l6 = false → X = Y))) := by
  obtain ⟨c, X, i', d', m', f', t', gX, ⟨sl, rfl, fX⟩, hi, h1, hr⟩ := h
  refine ⟨c, X, sl, i', d', m', f', t', rfl, gX, fX, h1, hi, ?_⟩
  cases hf : F st with
  | none => rw [hf] at hr; exact .inl ⟨rfl, hr⟩
  | some r =>
    rw [hf] at hr
    obtain ⟨rfl, rfl, rfl, rfl, rfl, h2⟩ := hr
    obtain ⟨a1, a2, a3⟩ := hadv _ _ hf
    exact .inr ⟨r.1.large, r.2, rfl, rfl, rfl, rfl, a1, a3, h2⟩
theorem coll_single {t : Tm} (h : inR t.c) : coll [t] = if t.c = 0 then [] else [t] := by
  rw [coll_putAll (by intro u hu; rw [List.mem_singleton.1 hu]; exact h)]
  rfl
theorem numV_coll {n m : Nat} (hn : n ≤ 9999) (hm : 1 ≤ m) : mkV (coll [⟨n, 0, 0, 0⟩]) m = numV n m := by
  rw [coll_single (by show inR (n : Int); unfold inR; omega)]
  unfold numV
  by_cases h : n = 0
  · subst h
    rw [if_pos (by rfl), if_pos rfl]
    unfold mkV
    have e : ((m : Int)).tdiv (gcdL m []) = 1 := Int.tdiv_self (by omega)
    rw [e]
    rfl
  · rw [if_neg h, if_neg (by show ¬ (n : Int) = 0; omega)]

theorem iBase_ok (lim q : Nat) (s : ByteArray) (d : Int) (S : Option PF) (hq : lim ≤ q) (hs : s.size ≤ 100) (hd : 0 ≤ d ∧ d ≤ 4)
    (hS : ∀ f, S = some f → d < 4 ∧ Adv s f ∧ IOk lim q s (d + 1) n_impl_reader_sum f) (hN : S = none → d = 4) : IOk lim q s d n_impl_reader_base (pBase s d S) := by
  intro H st hl hqn hi h
  refine is_impl_reader_base.go rfl ?_
  unfold c_impl_reader_base
  refine s_reg ?_
  simp only [o_eff, o_nil, EOp.ev, env0, gu, setD, List.set, Option.some.injEq, exists_eq_left']
  have L1 := Loc.mk' (Chg.refl q H) [.int .i64 0, .slice none 0 0]
  replace h := h.ext (Ext.alloc H [.int .i64 0, .slice none 0 0]) hqn
  generalize H.alloc [.int .i64 0, .slice none 0 0] = H1 at L1 h ⊢
  have hn1 := L1.lt
  generalize hp1 : H.next = p1 at L1 hn1
  have hb := ch_b s st.i
  refine s_reg ?_
  simp only [o_pure, o_callF, POp.ev, Opd.ev, gv, setD, List.map, Option.some.injEq, exists_eq_left']
  refine (iNext_ok lim q _ s st.i d st.most true _ H1 hq (by omega) h).mono ?_
  rintro _ H2 ⟨rfl, h2, c2⟩
  rw [hit_xyz] at h2 ⊢
  simp only [o_cont, o_pure, o_nil, POp.ev, Opd.ev, gv, setD, List.set, Option.some.injEq, exists_eq_left', extV, List.getElem?_toArray, List.getElem?_cons_zero, List.getElem?_cons_succ]
  have hn2 := c2.next
  replace L1 := L1.step c2 hqn
  refine s_test ?_
  simp only [o_pure, o_nil, POp.ev, Opd.ev, gv, setD, Option.some.injEq, exists_eq_left']
  by_cases hlet : 120 ≤ ch s st.i ∧ ch s st.i ≤ 122
  · have hlt := ch_lt (s := s) (i := st.i) (by omega)
    have hP : pBase s d S st = some ({ st with i := st.i + 1 }, ⟨[xk ((ch s st.i : Int) - 120)], 1⟩) := by unfold pBase; rw [if_pos hlet]
    simp only [hlet, and_self, decide_true, if_true] at h2 ⊢
    refine Test.true_ ?_
    have hf0 : fillV [.int .i64 0, .int .i64 0, .int .i64 0] [] = some [.int .i64 0, .int .i64 0, .int .i64 0] := rfl
    have hst : storeH lim (H2.alloc [.int .i64 0, .int .i64 0, .int .i64 0]) 3 (pt H2.next) (.agg #[.int .i64 0, .int .i64 0, .int .i64 0]) = some (undef, H2.alloc [.int .i64 0, .int .i64 0, .int .i64 0]) := by
      have := store_all (lim := lim) (H := H2.alloc [.int .i64 0, .int .i64 0, .int .i64 0]) (b := H2.next) (cs := [.int .i64 0, .int .i64 0, .int .i64 0]) (xs := [.int .i64 0, .int .i64 0, .int .i64 0]) (by omega) (alloc_new _ _) rfl
      rw [alloc_put] at this
      exact this
    refine s_reg ?_
    simp only [o_pure, o_eff, o_nil, POp.ev, Opd.ev, EOp.ev, gv, setD, List.set, List.map, Option.map_some, Option.some.injEq, exists_eq_left', hf0, hst]
    have hx3 := Ext.alloc H2 [.int .i64 0, .int .i64 0, .int .i64 0]
    have hbk : (H2.alloc [.int .i64 0, .int .i64 0, .int .i64 0]).blk H2.next = some [.int .i64 0, .int .i64 0, .int .i64 0] := alloc_new _ _
    have L3 := L1.ext hx3
    have h3 := h2.ext hx3 (by omega)
    have hlt1 := L1.lt
    have hn3 : H2.next < (H2.alloc [.int .i64 0, .int .i64 0, .int .i64 0]).next := Nat.lt_succ_self _
    generalize H2.alloc [.int .i64 0, .int .i64 0, .int .i64 0] = H3 at hx3 hbk L3 h3 hn3 ⊢
    generalize hp4 : H2.next = p4 at hbk hn3 hlt1
    have w1 : IntKind.u8.wrap ((ch s st.i : Int) - 120) = ((ch s st.i - 120 : Nat) : Int) := by rw [IntKind.wrap_u8]; omega
    have ha : aadV 3 1 (pt p4) (.int .u8 ((ch s st.i - 120 : Nat) : Int)) = some (.pointer (some ⟨p4, ch s st.i - 120, none⟩)) := by
      simp only [aadV, Nat.zero_add, Nat.mul_one, Int.toNat_natCast]
      rw [if_pos (by omega)]
    have hsto := store_int (lim := lim) (H := H3) (b := p4) (o := ch s st.i - 120) .i64 1 (by omega) hbk (by simp; omega)
    refine s_reg ?_
    simp only [o_pure, o_eff, o_nil, POp.ev, Opd.ev, EOp.ev, gv, setD, Option.some.injEq, exists_eq_left', binV, ne_eq, not_true_eq_false, if_false, w1, ha, hsto]
    have c4 := Chg.put p4 H3 ([Value.int .i64 0, .int .i64 0, .int .i64 0].set (ch s st.i - 120) (.int .i64 1))
    have hbk4 : ∃ a b c : Int, (H3.put p4 ([Value.int .i64 0, .int .i64 0, .int .i64 0].set (ch s st.i - 120) (.int .i64 1))).blk p4 = some [.int .i64 a, .int .i64 b, .int .i64 c] ∧ (⟨1, a, b, c⟩ : Tm) = xk ((ch s st.i : Int) - 120) := by
      rw [put_same]
      have : ch s st.i = 120 ∨ ch s st.i = 121 ∨ ch s st.i = 122 := by omega
      rcases this with e | e | e <;> rw [e]
      · exact ⟨1, 0, 0, rfl, rfl⟩
      · exact ⟨0, 1, 0, rfl, rfl⟩
      · exact ⟨0, 0, 1, rfl, rfl⟩
    obtain ⟨ea, eb, ec, hbk4, hxk⟩ := hbk4
    generalize H3.put p4 ([Value.int .i64 0, .int .i64 0, .int .i64 0].set (ch s st.i - 120) (.int .i64 1)) = H4 at c4 hbk4 ⊢
    have hge3 := L3.chg.next
    have L4 := L3.other c4 (by omega) (by have := L1.chg.next; omega)
    have h4 := h3.over c4 (by omega) (by have := L1.chg.next; omega)
    have hn4 := c4.next
    have hld3 : loadNV H4 3 (pt p4) = some (.agg #[.int .i64 ea, .int .i64 eb, .int .i64 ec]) := loadNV_blk hbk4
    refine s_reg ?_
    simp only [o_pure, o_callF, POp.ev, Opd.ev, gv, setD, List.map, Option.some.injEq, exists_eq_left', hld3]
    refine (termOfG_ok lim 1 ea eb ec H4 (by omega)).mono ?_
    rintro _ H5 ⟨rfl, hx5⟩
    rw [hxk]
    have hn5 := hx5.next
    have hbs : ∀ t : Tm, bsliceH H5 1 [.int .i64 0, .int .i64 0, .int .i64 0, .int .i64 0] [(0, 4, tv t)] = some (.slice (some ⟨H5.next, 0, some 0⟩) 1 1, H5.alloc (tc t)) := fun t => rfl
    have hf2 : fillV [.int .i64 0, .slice none 0 0] [(0, 1, .int .i64 1), (1, 1, .slice (some ⟨H5.next, 0, some 0⟩) 1 1)] = some [.int .i64 1, .slice (some ⟨H5.next, 0, some 0⟩) 1 1] := fill2 rfl rfl
    have hF := SlF.one H5 (xk ((ch s st.i : Int) - 120)) H5.next (Nat.le_refl _)
    have hx6 := Ext.alloc H5 (tc (xk ((ch s st.i : Int) - 120)))
    have L6 := (L4.ext hx5).ext hx6
    have h6 := h4.ext (hx5.trans hx6) (by omega)
    simp only [o_cont, o_pure, o_eff, o_nil, POp.ev, Opd.ev, EOp.ev, gv, setD, List.map, Option.map_some, Option.some.injEq, exists_eq_left', hbs, hf2]
    generalize H5.alloc (tc (xk ((ch s st.i : Int) - 120))) = H6 at hF hx6 L6 h6 ⊢
    generalize Value.slice (some ⟨H5.next, 0, some 0⟩) 1 1 = sl at hF ⊢
    obtain ⟨H7, e7, L7, c7, n7⟩ := L6.put2 hl (.int .i64 1) sl
    simp only [Option.some.injEq, exists_eq_left', e7]
    refine s_ret1 ?_
    simp +decide only [p_seq_ret, p_fin_ret, resV, resOne, gv, Option.some.injEq, exists_eq_left', L7.load2]
    have hn6 := hx6.next
    have hge6 := L6.ge
    refine ⟨L7.chg, _, _, _, _, _, _, single_good (xk_ex ((ch s st.i : Int) - 120)).1 (xk_ex _).2, ⟨sl, rfl, (hF.chg c7 (.inl (by omega))).low (by omega)⟩, hlt, h6.over c7 (by omega) (by omega), ?_⟩
    rw [hP]
    exact ⟨rfl, rfl, rfl, rfl, rfl, fun _ => rfl⟩
  · simp only [hlet, decide_false, if_false, Bool.false_eq_true] at h2 ⊢
    refine Test.false_ (s_skip1 ?_)
    simp +decide only [p_seq_normal]
    refine s_reg ?_
    simp only [o_pure, o_callF, POp.ev, Opd.ev, gv, setD, List.map, Option.some.injEq, exists_eq_left']
    refine (iNext_ok lim q _ s st.i d st.most true _ H2 hq (by omega) h2).mono ?_
    rintro _ H3 ⟨rfl, h3, c3⟩
    rw [hit_open] at h3 ⊢
    simp only [o_cont, o_pure, o_nil, POp.ev, Opd.ev, gv, setD, List.set, Option.some.injEq, exists_eq_left', extV, List.getElem?_toArray, List.getElem?_cons_zero, List.getElem?_cons_succ]
    have hn3 := c3.next
    replace L1 := L1.step c3 hqn
    have hge1 := L1.ge
    refine s_test ?_
    simp only [o_pure, o_nil, POp.ev, Opd.ev, gv, setD, Option.some.injEq, exists_eq_left']
    by_cases h40 : ch s st.i = 40
    · have hlt := ch_lt (s := s) (i := st.i) (by omega)
      have hP : pBase s d S st = S.bind fun f => (f { st with i := st.i + 1, most := mx st.most (d + 1) }).bind fun r => if ch s r.1.i = 41 then some ({ r.1 with i := r.1.i + 1 }, r.2) else none := by
        unfold pBase; rw [if_neg hlet, if_pos h40]
      simp only [h40, decide_true, if_true] at h3 ⊢
      refine Test.true_ ?_
      obtain ⟨H4, e4, h4, c4⟩ := h3.s2 hq (d + 1)
      obtain ⟨H5, e5, h5, c5⟩ := h4.s3 hq (mx st.most (d + 1))
      obtain ⟨H6, e6, h6, c6⟩ := h5.s4 hq (decide (d + 1 ≤ 4))
      have wd : IntKind.i64.wrap (d + 1) = d + 1 := by rw [IntKind.wrap_i64]; omega
      have emx : (if d + 1 > st.most then d + 1 else st.most) = mx st.most (d + 1) := by
        unfold mx
        split <;> split <;> omega
      refine s_reg ?_
      simp only [o_pure, o_eff, o_nil, POp.ev, Opd.ev, EOp.ev, gv, setD, Option.some.injEq, exists_eq_left', binV, load1V, nilchkV, fadV, ne_eq, not_true_eq_false, if_false, Nat.zero_add, h3.c2, wd, e4]
      refine s_reg ?_
      simp only [o_pure, o_eff, o_nil, POp.ev, Opd.ev, EOp.ev, gv, setD, Option.some.injEq, exists_eq_left', load1V, max2V, nilchkV, fadV, Nat.zero_add, h4.c3, h4.c2, emx, e5]
      refine s_reg ?_
      simp only [o_pure, o_eff, o_guard, gk_tt, o_nil, POp.ev, Opd.ev, EOp.ev, gv, setD, Option.some.injEq, exists_eq_left', pickV, binV, load1V, nilchkV, fadV, ne_eq, not_true_eq_false, if_false, Nat.zero_add, h5.c4, h5.c2, e6]
      have c36 := (c4.trans c5).trans c6
      replace L1 := L1.step c36 hqn
      have hn6 := c36.next
      refine s_test ?_
      simp only [o_pure, o_nil, POp.ev, Opd.ev, gv, setD, Option.some.injEq, exists_eq_left', load1V, nilchkV, unV, fadV, Nat.zero_add, h6.c4]
      by_cases hdeep : d + 1 ≤ 4
      · obtain ⟨f, hf⟩ : ∃ f, S = some f := by
          cases hSS : S with
          | none => have := hN hSS; omega
          | some f => exact ⟨f, rfl⟩
        obtain ⟨hd4, hadv, hsum⟩ := hS f hf
        subst hf
        simp only [Option.bind_some] at hP
        simp only [hdeep, decide_true, Bool.not_true] at h6 ⊢
        refine Test.false_ (s_skip1 ?_)
        simp +decide only [p_seq_normal]
        refine s_reg ?_
        simp only [o_pure, o_callF, POp.ev, Opd.ev, gv, setD, List.map, Option.some.injEq, exists_eq_left']
        refine (hsum H6 { st with i := st.i + 1, most := mx st.most (d + 1) } (by omega) (by omega) hlt h6).mono ?_
        intro v H7 hr
        obtain ⟨c7, X, slx, i7, d7, m7, f7, t7, rfl, gX, fX, h7, hi7, hcase⟩ := ResI.cases hadv hr
        have hn7 := c7.next
        have L17 := L1.step c7 hqn
        simp only [o_cont, o_eff, o_nil, Opd.ev, EOp.ev, gv, setD, List.set, Option.some.injEq, exists_eq_left', store2_new (lim := lim) (H := H7) (by omega)]
        have L6 := Loc.mk' L17.chg [.int .i64 X.den, slx]
        have hx8 := Ext.alloc H7 [.int .i64 X.den, slx]
        have L18 := L17.ext hx8
        have h8 := h7.ext hx8 (by omega)
        have f8 := fX.ext hx8
        have hlt17 := L17.lt
        generalize H7.alloc [.int .i64 X.den, slx] = H8 at L6 hx8 L18 h8 f8 ⊢
        have hn8 := hx8.next
        generalize H7.next = p6 at L6 hlt17
        refine s_reg ?_
        simp only [o_pure, o_callF, POp.ev, Opd.ev, gv, setD, List.map, Option.some.injEq, exists_eq_left']
        refine (iNext_ok lim q _ s i7 d7 m7 f7 t7 H8 hq (by omega) h8).mono ?_
        rintro _ H9 ⟨rfl, h9, c9⟩
        rw [hit_close] at h9 ⊢
        simp only [o_cont, o_pure, o_nil, POp.ev, Opd.ev, gv, setD, List.set, Option.some.injEq, exists_eq_left', extV, List.getElem?_toArray, List.getElem?_cons_zero, List.getElem?_cons_succ]
        obtain ⟨H10, e10, h10, c10⟩ := h9.s4 hq (f7 && decide (ch s i7 = 41))
        obtain ⟨H11, e11, h11, c11⟩ := h10.s2 hq (IntKind.i64.wrap (d7 - 1))
        refine s_reg_cut (fun e' H' => H' = H10 ∧ e' = [pt q, pt p1, .int .u8 0, .bool false, undef, .bool true, pt p6, .bool (decide (ch s i7 = 41)), undef, undef, undef]) ?_ ?_
        · cases hf7 : f7
          · rw [hf7] at e10
            simp only [Bool.false_and] at e10
            simp only [o_pure, o_eff, o_guard, gk_ft, o_nil, POp.ev, Opd.ev, EOp.ev, gv, setD, Option.some.injEq, exists_eq_left', pickV, load1V, nilchkV, fadV, Nat.zero_add, h9.c4, hf7, e10]
            exact ⟨trivial, trivial⟩
          · rw [hf7] at e10
            simp only [Bool.true_and] at e10
            simp only [o_pure, o_eff, o_guard, gk_tt, o_nil, POp.ev, Opd.ev, EOp.ev, gv, setD, Option.some.injEq, exists_eq_left', pickV, load1V, nilchkV, fadV, Nat.zero_add, h9.c4, hf7, e10]
            exact ⟨trivial, trivial⟩
        · rintro e' H' ⟨rfl, rfl⟩
          refine s_reg ?_
          simp only [o_pure, o_eff, o_nil, POp.ev, Opd.ev, EOp.ev, gv, setD, Option.some.injEq, exists_eq_left', binV, load1V, nilchkV, fadV, ne_eq, not_true_eq_false, if_false, Nat.zero_add, h10.c2, e11]
          have c811 := (c9.trans c10).trans c11
          have L111 := L18.step c811 hqn
          have L611 := L6.step c811 hqn
          have hn11 := c811.next
          have hge11 := L111.ge
          obtain ⟨H12, e12, L12, c12, n12⟩ := L111.put2 hl (.int .i64 X.den) slx
          refine s_reg ?_
          simp only [o_pure, o_eff, o_nil, POp.ev, Opd.ev, EOp.ev, gv, setD, Option.some.injEq, exists_eq_left', L611.load2, e12]
          refine s_ret1 ?_
          simp +decide only [p_seq_ret, p_fin_ret, resV, resOne, gv, Option.some.injEq, exists_eq_left', L12.load2]
          have h12 := h11.over c12 (by omega) (by omega)
          refine ⟨L12.chg, X, _, _, _, _, _, gX, ⟨slx, rfl, ((f8.chg c811 (.inl (by omega))).chg c12 (.inl (by omega))).low (by omega)⟩, ?_, h12, ?_⟩
          · split
            · exact ch_lt (s := s) (i := i7) (by simp_all)
            · exact hi7
          · rw [hP]
            rcases hcase with ⟨hn, hbad⟩ | ⟨l6, Y, hsm, rfl, rfl, rfl, _, gY, hXY⟩
            · rw [hn]
              left
              rcases hbad with rfl | hdig
              · rfl
              · have : ¬ ch s i7 = 41 := by
                  intro e; rw [e] at hdig; cases hdig
                simp [this]
            · rw [hsm]
              simp only [Option.bind_some]
              by_cases h41 : ch s i7 = 41
              · rw [if_pos h41]
                have wd2 : IntKind.i64.wrap (d + 1 - 1) = d := by rw [IntKind.wrap_i64]; omega
                simp only [h41, decide_true, if_true, Bool.and_self]
                exact ⟨trivial, trivial, wd2, trivial, trivial, hXY⟩
              · rw [if_neg h41]
                left
                simp [h41]
      · have hSn : S = none := by
          cases hSS : S with
          | none => rfl
          | some f => have := (hS f hSS).1; omega
        simp only [hdeep, decide_false, Bool.not_false] at h6 ⊢
        refine Test.true_ ?_
        have hf : fillV [.int .i64 0, .slice none 0 0] [(0, 1, .int .i64 1)] = some [.int .i64 1, .slice none 0 0] := rfl
        obtain ⟨H7, e7, L7, c7, n7⟩ := L1.put2 hl (.int .i64 1) (.slice none 0 0)
        refine s_reg ?_
        simp only [o_pure, o_eff, o_nil, POp.ev, Opd.ev, EOp.ev, gv, setD, List.map, Option.map_some, Option.some.injEq, exists_eq_left', hf, e7]
        refine s_ret1 ?_
        simp +decide only [p_seq_ret, p_fin_ret, resV, resOne, gv, Option.some.injEq, exists_eq_left', L7.load2]
        refine ⟨L7.chg, zV, _, _, _, _, _, zV_good, ⟨_, rfl, SlF.nil _ _⟩, hlt, h6.over c7 (by omega) (by omega), ?_⟩
        rw [hP, hSn]
        exact .inl rfl
    · have hP : pBase s d S st = (pNum s st.i).bind fun a => if ch s a.2 = 47 then (pNum s (a.2 + 1)).bind fun b => if b.1 = 0 then none else some (keepF { st with i := b.2 } (numV a.1 b.1)) else some (keepF { st with i := a.2 } (numV a.1 1)) := by
        unfold pBase; rw [if_neg hlet, if_neg h40]
      simp only [h40, decide_false, if_false, Bool.false_eq_true] at h3 ⊢
      refine Test.false_ (s_skip1 ?_)
      simp +decide only [p_seq_normal]
      refine s_reg ?_
      simp only [o_pure, o_callF, POp.ev, Opd.ev, gv, setD, List.map, Option.some.injEq, exists_eq_left']
      refine (iNumber_ok lim q s st.i d st.most (!st.large) H3 (by omega) hq (by omega) hs hi h3).mono ?_
      rintro _ H4 ⟨n, i4, f4, rfl, hn9', _, hi4, h4, c4, hm4⟩
      have hn4 := c4.next
      simp only [o_cont, o_pure, o_nil, POp.ev, Opd.ev, gv, setD, List.set, Option.some.injEq, exists_eq_left']
      refine s_reg ?_
      simp only [o_pure, o_nil, POp.ev, Opd.ev, setD, List.set, Option.some.injEq, exists_eq_left']
      refine s_reg ?_
      simp only [o_pure, o_callF, POp.ev, Opd.ev, gv, setD, List.map, Option.some.injEq, exists_eq_left']
      refine (iNext_ok lim q _ s i4 d st.most f4 (!st.large) H4 hq (by omega) h4).mono ?_
      rintro _ H5 ⟨rfl, h5, c5⟩
      rw [hit_slash] at h5 ⊢
      simp only [o_cont, o_pure, o_nil, POp.ev, Opd.ev, gv, setD, List.set, Option.some.injEq, exists_eq_left', extV, List.getElem?_toArray, List.getElem?_cons_zero, List.getElem?_cons_succ]
      have hn5 := c5.next
      refine s_cut1 (fun e' H' => ∃ (den i6 : Nat) (f6 : Bool) (x10 : Value), den ≤ 9999 ∧ i6 ≤ s.size ∧ IRd H' q s i6 d st.most f6 (!st.large) ∧ Chg q H5 H' ∧ (f6 = true → 1 ≤ den) ∧
        ((pBase s d S st = none ∧ (f6 = false ∨ isD (ch s i6) = true)) ∨ (pBase s d S st = some (keepF { st with i := i6 } (numV n den)) ∧ f6 = true)) ∧
        e' = [pt q, pt p1, .int .u8 0, .bool false, undef, .bool false, undef, undef, .int .i64 n, .int .i64 den, x10]) ?_ ?_
      · by_cases h47 : ch s i4 = 47
        · have hlt4 := ch_lt (s := s) (i := i4) (by omega)
          simp only [h47, decide_true, if_true] at h5 ⊢
          cases hf4 : f4
          · refine s_test1_same false ?_ (fun e => by cases e) (fun _ => ?_)
            · simp only [o_pure, o_guard, gk_tt, o_nil, POp.ev, Opd.ev, gv, setD, Option.some.injEq, exists_eq_left', pickV, load1V, nilchkV, fadV, Nat.zero_add, h5.c4, hf4]
              simp
            · refine s_skip1 ?_
              simp +decide only [p_seq_normal]
              rw [hf4] at h5 hm4
              refine ⟨1, i4 + 1, false, _, by omega, hlt4, h5, Chg.refl _ _, by simp, .inl ⟨?_, .inl rfl⟩, rfl⟩
              rw [hP]
              cases hpn : pNum s st.i with
              | none => rfl
              | some a => rw [hpn] at hm4; have := hm4.2.2; cases this
          · rw [hf4] at h5 hm4
            obtain ⟨a, hpn, rfl, rfl⟩ : ∃ a, pNum s st.i = some a ∧ n = a.1 ∧ i4 = a.2 := by
              cases hpn : pNum s st.i with
              | none =>
                rw [hpn] at hm4
                rcases hm4 with h | h
                · cases h
                · rw [h47] at h; cases h
              | some a => rw [hpn] at hm4; exact ⟨a, rfl, hm4.1, hm4.2.1⟩
            rw [hpn] at hP
            simp only [Option.bind_some] at hP
            rw [if_pos h47] at hP
            refine s_test1_same true ?_ (fun _ => ?_) (fun e => by cases e)
            · simp only [o_pure, o_guard, gk_tt, o_nil, POp.ev, Opd.ev, gv, setD, Option.some.injEq, exists_eq_left', pickV, load1V, nilchkV, fadV, Nat.zero_add, h5.c4]
              simp
            · refine s_reg ?_
              simp only [o_pure, o_callF, POp.ev, Opd.ev, gv, setD, List.map, Option.some.injEq, exists_eq_left']
              refine (iNumber_ok lim q s (a.2 + 1) d st.most (!st.large) H5 (by omega) hq (by omega) hs hlt4 h5).mono ?_
              rintro _ H6 ⟨n6, i6, f6, rfl, hn6, _, hi6, h6, c6, hm6⟩
              simp only [o_cont, o_pure, o_nil, POp.ev, Opd.ev, gv, setD, List.set, Option.some.injEq, exists_eq_left']
              obtain ⟨H7, e7, h7, c7⟩ := h6.s4 hq (f6 && decide ((n6 : Int) > 0))
              refine s_reg1 ?_
              have hfin : pBase s d S st = none ∧ ((f6 && decide ((n6 : Int) > 0)) = false ∨ isD (ch s i6) = true) ∨ pBase s d S st = some (keepF { st with i := i6 } (numV a.1 n6)) ∧ (f6 && decide ((n6 : Int) > 0)) = true := by
                rw [hP]
                cases hp6 : pNum s (a.2 + 1) with
                | none =>
                  rw [hp6] at hm6
                  left
                  refine ⟨rfl, ?_⟩
                  rcases hm6 with rfl | h
                  · exact .inl rfl
                  · exact .inr h
                | some b =>
                  rw [hp6] at hm6
                  obtain ⟨rfl, rfl, rfl⟩ := hm6
                  simp only [Option.bind_some]
                  by_cases hb0 : b.1 = 0
                  · rw [if_pos hb0]
                    left
                    exact ⟨rfl, .inl (by simp [hb0])⟩
                  · rw [if_neg hb0]
                    right
                    exact ⟨rfl, by simp; omega⟩
              cases hf6 : f6
              · rw [hf6] at e7 h7 hfin
                simp only [Bool.false_and] at e7 h7 hfin
                simp only [o_pure, o_eff, o_guard, gk_ft, o_nil, POp.ev, Opd.ev, EOp.ev, gv, setD, Option.some.injEq, exists_eq_left', pickV, load1V, nilchkV, fadV, Nat.zero_add, h6.c4, hf6, e7]
                simp +decide only [p_seq_normal]
                exact ⟨n6, i6, false, _, hn6, hi6, h7, c6.trans c7, by simp, by simpa using hfin, rfl⟩
              · rw [hf6] at e7 h7 hfin
                simp only [Bool.true_and] at e7 h7 hfin
                simp only [o_pure, o_eff, o_guard, gk_tt, o_nil, POp.ev, Opd.ev, EOp.ev, gv, setD, Option.some.injEq, exists_eq_left', pickV, binV, load1V, nilchkV, fadV, ne_eq, not_true_eq_false, if_false, Nat.zero_add, h6.c4, hf6, e7]
                simp +decide only [p_seq_normal]
                exact ⟨n6, i6, _, _, hn6, hi6, h7, c6.trans c7, by intro e; simp at e; omega, hfin, rfl⟩
        · simp only [h47, decide_false, if_false, Bool.false_eq_true] at h5 ⊢
          refine s_test1_same false ?_ (fun e => by cases e) (fun _ => ?_)
          · simp only [o_pure, o_guard, gk_ft, o_nil, POp.ev, Opd.ev, gv, setD, Option.some.injEq, exists_eq_left', pickV]
            simp
          · refine s_skip1 ?_
            simp +decide only [p_seq_normal]
            refine ⟨1, i4, f4, _, by omega, hi4, h5, Chg.refl _ _, fun _ => Nat.le_refl _, ?_, rfl⟩
            rw [hP]
            cases hpn : pNum s st.i with
            | none => rw [hpn] at hm4; exact .inl ⟨rfl, hm4⟩
            | some a =>
              rw [hpn] at hm4
              obtain ⟨rfl, rfl, rfl⟩ := hm4
              simp only [Option.bind_some]
              rw [if_neg h47]
              exact .inr ⟨rfl, trivial⟩
      · rintro e' H6 ⟨den, i6, f6, x10, hden9, hi6, h6, c6, hden1, hfin, rfl⟩
        have hn6 := c6.next
        have L6 := L1.step ((c4.trans c5).trans c6) hqn
        have hge6 := L6.ge
        refine s_test ?_
        simp only [o_pure, o_nil, POp.ev, Opd.ev, gv, setD, Option.some.injEq, exists_eq_left', load1V, nilchkV, unV, fadV, Nat.zero_add, h6.c4]
        cases hf6 : f6
        · rw [hf6] at h6 hfin
          refine Test.true_ ?_
          have hf : fillV [.int .i64 0, .slice none 0 0] [(0, 1, .int .i64 1)] = some [.int .i64 1, .slice none 0 0] := rfl
          obtain ⟨H7, e7, L7, c7, n7⟩ := L6.put2 hl (.int .i64 1) (.slice none 0 0)
          refine s_reg ?_
          simp only [o_pure, o_eff, o_nil, POp.ev, Opd.ev, EOp.ev, gv, setD, List.map, Option.map_some, Option.some.injEq, exists_eq_left', hf, e7]
          refine s_ret1 ?_
          simp +decide only [p_seq_ret, p_fin_ret, resV, resOne, gv, Option.some.injEq, exists_eq_left', L7.load2]
          refine ⟨L7.chg, zV, _, _, _, _, _, zV_good, ⟨_, rfl, SlF.nil _ _⟩, hi6, h6.over c7 (by omega) (by omega), ?_⟩
          rcases hfin with ⟨hn, _⟩ | ⟨_, e⟩
          · rw [hn]; exact .inl rfl
          · cases e
        · rw [hf6] at h6 hfin
          have hden1' := hden1 hf6
          refine Test.false_ (s_skip1 ?_)
          simp +decide only [p_seq_normal]
          have hf : fillV [.int .i64 0, .int .i64 0, .int .i64 0, .int .i64 0] [(0, 1, .int .i64 n)] = some [.int .i64 n, .int .i64 0, .int .i64 0, .int .i64 0] := rfl
          have hbs : bsliceH H6 1 [.int .i64 0, .int .i64 0, .int .i64 0, .int .i64 0] [(0, 4, .agg #[.int .i64 n, .int .i64 0, .int .i64 0, .int .i64 0])] = some (.slice (some ⟨H6.next, 0, some 0⟩) 1 1, H6.alloc (tc ⟨n, 0, 0, 0⟩)) := rfl
          have hF := SlF.one H6 ⟨n, 0, 0, 0⟩ H6.next (Nat.le_refl _)
          have hx7 := Ext.alloc H6 (tc ⟨n, 0, 0, 0⟩)
          refine s_reg ?_
          simp only [o_pure, o_eff, o_callF, POp.ev, Opd.ev, EOp.ev, gv, setD, List.map, Option.map_some, Option.some.injEq, exists_eq_left', hf, hbs]
          generalize H6.alloc (tc ⟨n, 0, 0, 0⟩) = H7 at hF hx7 ⊢
          generalize Value.slice (some ⟨H6.next, 0, some 0⟩) 1 1 = sl at hF ⊢
          have hn7 := hx7.next
          refine (collectG_ok lim sl _ H7 (by omega) hF.sl (by simp)).mono ?_
          rintro vc H8 ⟨bc, hbc1, hbc2, hvc, hx8⟩
          have hn8 := hx8.next
          have hcl := coll_length [(⟨n, 0, 0, 0⟩ : Tm)]
          have hcs := coll_single (t := ⟨n, 0, 0, 0⟩) (by show inR (n : Int); unfold inR; omega)
          have hmem : ∀ t ∈ coll [(⟨n, 0, 0, 0⟩ : Tm)], t = ⟨n, 0, 0, 0⟩ := by
            intro t ht
            rw [hcs] at ht
            split at ht
            · simp at ht
            · exact List.mem_singleton.1 ht
          simp only [o_cont, o_callF, Opd.ev, gv, setD, List.map]
          refine (reduced_ok lim vc _ den H8 (by omega) (Vec.sl hvc) (by simp at hcl; omega) (by omega) (fun t ht => by rw [hmem t ht]; show _ ≤ (n : Int) ∧ (n : Int) ≤ _; omega)).mono ?_
          rintro _ H9 ⟨⟨sl9, rfl, fS⟩, hx9⟩
          have hn9 := hx9.next
          have hx69 := (hx7.trans hx8).trans hx9
          simp only [o_cont, o_callF, Opd.ev, gv, setD, List.map]
          refine (iKeep_ok lim q s i6 d st.most true (!st.large) sl9 (redV (coll [⟨n, 0, 0, 0⟩]) den) H9 hq (by omega) (by omega) (h6.ext hx69 (by omega)) fS.sl (by unfold redV; simp at hcl ⊢; omega) (fun t ht => by
            obtain ⟨u, hu, rfl⟩ := List.mem_map.1 ht
            rw [hmem u hu]
            simp only [divT, exS]
            omega)).mono ?_
          rintro _ H10 ⟨rfl, h10, c10⟩
          have hn10 := c10.next
          obtain ⟨H11, e11, L11, c11, n11⟩ := ((L6.ext hx69).step c10 hqn).put2 hl (.int .i64 (if !st.large && toldB (redV (coll [⟨n, 0, 0, 0⟩]) den) then (redV (coll [⟨n, 0, 0, 0⟩]) den).den else 1)) (if !st.large && toldB (redV (coll [⟨n, 0, 0, 0⟩]) den) then sl9 else .slice none 0 0)
          simp only [o_cont, o_eff, o_nil, Opd.ev, EOp.ev, gv, setD, Option.some.injEq, exists_eq_left', e11]
          refine s_ret1 ?_
          simp +decide only [p_fin_ret, resV, resOne, gv, Option.some.injEq, exists_eq_left', L11.load2]
          have h11 := h10.over c11 (by omega) (by omega)
          have hnv := numV_coll hn9' hden1'
          rw [mkV_red] at hnv
          cases hcc : (!st.large && toldB (redV (coll [⟨n, 0, 0, 0⟩]) den))
          · rw [hcc] at h11
            simp only [Bool.false_eq_true, if_false]
            refine ⟨L11.chg, zV, _, _, _, _, _, zV_good, ⟨_, rfl, SlF.nil _ _⟩, hi6, h11, ?_⟩
            rcases hfin with ⟨hn, hbad⟩ | ⟨hsm, _⟩
            · rw [hn]
              exact .inr (hbad.resolve_left (by simp))
            · rw [hsm]
              refine ⟨rfl, (keepF_i { st with i := i6 } (numV n den)).symm, rfl, (keepF_most { st with i := i6 } (numV n den)).symm, ?_⟩
              have hlg : (keepF { st with i := i6 } (numV n den)).1.large = true := by
                rw [keepF_large, ← hnv]
                cases hlar : st.large
                · rw [hlar] at hcc
                  simp only [Bool.not_false, Bool.true_and] at hcc
                  rw [hcc]
                  rfl
                · rfl
              rw [hlg]
              exact ⟨rfl, by simp⟩
          · rw [hcc] at h11
            simp only [if_true]
            simp only [Bool.and_eq_true, Bool.not_eq_true'] at hcc
            rw [hcc.2, if_pos rfl] at hnv
            have hlt10 := hx69.next
            refine ⟨L11.chg, _, _, _, _, _, _, numV_good hn9' hden1' hnv.symm, ⟨sl9, rfl, ((fS.chg c10 (.inl (by omega))).chg c11 (.inl (by have := L6.lt; omega))).low (by omega)⟩, hi6, h11, ?_⟩
            rcases hfin with ⟨hn, hbad⟩ | ⟨hsm, _⟩
            · rw [hn]
              exact .inr (hbad.resolve_left (by simp))
            · rw [hsm, ← hnv]
              exact ⟨rfl, rfl, rfl, rfl, by show true = !st.large; rw [hcc.1]; rfl, fun _ => rfl⟩
end Go.Proofs.Ytaimceodhhgnnaa

/- The reader of expressions, implementation: factors; no condition beyond stated ranges. -/
namespace Go.Proofs.Ytaimceodhhgnnaa
open Go.Ab
set_option linter.unusedSimpArgs false
set_option linter.unusedVariables false

/-- what is kept of a value -/
def kV (l : Bool) (W : V) : V := if !l && toldB W then W else zV
theorem kV_good {l : Bool} {W : V} (h : toldB W = true → Good W) : Good (kV l W) := by
  unfold kV
  split
  · rename_i hc
    simp only [Bool.and_eq_true] at hc
    exact h hc.2
  · exact zV_good
theorem keep_rel {i : Nat} {m : Int} {l : Bool} {W : V} {op : Option V} (h : l = false → op = if toldB W then some W else none) :
    (!l && toldB W) = !(keepF ⟨i, m, l⟩ op).1.large ∧ ((keepF ⟨i, m, l⟩ op).1.large = false → kV l W = (keepF ⟨i, m, l⟩ op).2) := by
  rw [keepF_large]
  unfold kV
  cases l
  · rw [h rfl]
    cases hT : toldB W
    · simp
    · simp [keepF]
  · simp
theorem iKeepR_ok (lim q : Nat) (s : ByteArray) (i d m : Int) (f l : Bool) (sl : Value) (W : V) (lo : Nat) (H : AHeap) (hq : lim ≤ q) (hqn : q < H.next) (hqlo : q < lo) (hl : lim ≤ H.next) (h : IRd H q s i d m f (!l)) (hs : SlF H lo sl W.ts) (hn : W.ts.length ≤ 100000) (hx : ∀ t ∈ W.ts, exS t) :
    ACalls Try.prog lim n_impl_reader_keep [pt q, .agg #[.int .i64 W.den, sl]] H fun v H' => ∃ sl', v = .agg #[.int .i64 (kV l W).den, sl'] ∧ SlF H' lo sl' (kV l W).ts ∧ IRd H' q s i d m f (!l && toldB W) ∧ Chg q H H' := by
  refine (iKeep_ok lim q s i d m f (!l) sl W H hq hqn hl h hs.sl hn hx).mono ?_
  rintro _ H' ⟨rfl, h1, c1⟩
  unfold kV
  cases hc : (!l && toldB W)
  · rw [hc] at h1
    exact ⟨.slice none 0 0, rfl, SlF.nil _ _, h1, c1⟩
  · rw [hc] at h1
    exact ⟨sl, rfl, hs.chg c1 (.inl hqlo), h1, c1⟩
theorem redV_ex {ts : List Tm} {den : Int} (h : ∀ t ∈ ts, exS t) : ∀ t ∈ (redV ts den).ts, exS t := fun t ht => by
  obtain ⟨u, hu, rfl⟩ := List.mem_map.1 ht
  exact h u hu
theorem redV_len (ts : List Tm) (den : Int) : (redV ts den).ts.length = ts.length := by unfold redV; simp
theorem mul_red (A B : V) : mulV A B = if toldB (redV (coll (prodL A.ts B.ts)) (A.den * B.den)) then some (redV (coll (prodL A.ts B.ts)) (A.den * B.den)) else none := mkV_red _ _
theorem add_red {A B : V} (hA : Good A) (hB : Good B) {n : Int} (hn : n = 1 ∨ n = -1) : addV A B n = if toldB (redV (coll (addM A B n)) (A.den * B.den)) then some (redV (coll (addM A B n)) (A.den * B.den)) else none := by
  rw [← add_same hA hB hn]
  exact mkV_red _ _
theorem mul_red_good {A B : V} (hA : Good A) (hB : Good B) (h : toldB (redV (coll (prodL A.ts B.ts)) (A.den * B.den)) = true) : Good (redV (coll (prodL A.ts B.ts)) (A.den * B.den)) :=
  mulV_good hA hB (by rw [mul_red, h]; rfl)
theorem add_red_good {A B : V} (hA : Good A) (hB : Good B) {n : Int} (hn : n = 1 ∨ n = -1) (h : toldB (redV (coll (addM A B n)) (A.den * B.den)) = true) : Good (redV (coll (addM A B n)) (A.den * B.den)) :=
  addV_good hA hB hn (by rw [add_red hA hB hn, h]; rfl)
theorem mul_bn {A B : V} (hA : Good A) (hB : Good B) : ∀ t ∈ coll (prodL A.ts B.ts), exS t := by
  have hbnd := prod_bnd hA hB
  have hlen := prod_len hA hB
  obtain ⟨hcoll, hbn⟩ := put_bn (fun t ht => (hbnd t ht).1) (fun t ht => (hbnd t ht).2) (by omega) (by omega) (by omega)
  exact fun t ht => (hbn t (by rw [hcoll]; exact ht)).2
theorem add_bn {A B : V} (hA : Good A) (hB : Good B) {n : Int} (hn : n = 1 ∨ n = -1) : ∀ t ∈ coll (addM A B n), exS t := by
  have hbnd := addM_bnd hA hB hn
  have hlen := addM_length hA hB n
  obtain ⟨hcoll, hbn⟩ := put_bn (fun t ht => (hbnd t ht).1) (fun t ht => (hbnd t ht).2) (by omega) (by omega) (by omega)
  exact fun t ht => (hbn t (by rw [hcoll]; exact ht)).2

theorem iFactor_ok (lim q : Nat) (s : ByteArray) (d : Int) (F : PF) (hq : lim ≤ q) (hs : s.size ≤ 100) (hadv : Adv s F) (hF : IOk lim q s d n_impl_reader_base F) :
    IOk lim q s d n_impl_reader_factor (pFactor s F) := by
  intro H st hl hqn hi h
  refine is_impl_reader_factor.go rfl ?_
  unfold c_impl_reader_factor
  refine s_reg ?_
  simp only [o_eff, o_nil, EOp.ev, env0, gu, setD, List.set, Option.some.injEq, exists_eq_left']
  have L1 := Loc.mk' (Chg.refl q H) [.int .i64 0, .slice none 0 0]
  replace h := h.ext (Ext.alloc H [.int .i64 0, .slice none 0 0]) hqn
  generalize H.alloc [.int .i64 0, .slice none 0 0] = H1 at L1 h ⊢
  have hn1 := L1.lt
  generalize hp1 : H.next = p1 at L1 hn1
  refine s_reg ?_
  simp only [o_pure, o_callF, POp.ev, Opd.ev, gv, setD, List.map, Option.some.injEq, exists_eq_left']
  refine (hF H1 st (by omega) (by omega) hi h).mono ?_
  intro v H2 hr
  obtain ⟨c2, X, slx, i6, d6, m6, f6, t6, rfl, gX, fX, h2, hi6, hcase⟩ := ResI.cases hadv hr
  clear hr h
  have hn2 := c2.next
  simp only [o_cont, o_eff, o_nil, Opd.ev, EOp.ev, gv, setD, List.set, Option.some.injEq, exists_eq_left', store2_new (lim := lim) (H := H2) (by omega)]
  replace L1 := L1.step c2 hqn
  have L2 := Loc.mk' L1.chg [.int .i64 X.den, slx]
  have hlt1 := L1.lt
  have hx3 := Ext.alloc H2 [.int .i64 X.den, slx]
  replace L1 := L1.ext hx3
  replace h2 := h2.ext hx3 (by omega)
  have fX2 := (fX.held [] (by simp)).more (Nat.le_refl H2.next)
  replace fX2 := fX2.ext hx3
  generalize H2.alloc [.int .i64 X.den, slx] = H3 at L1 L2 hx3 h2 fX2 ⊢
  have hn3 := hx3.next
  generalize H2.next = p2 at L2 hx3 fX2 hlt1 hn3 hn2
  clear fX
  refine s_assoc ?_
  refine s_reg ?_
  simp only [o_pure, o_callF, POp.ev, Opd.ev, gv, setD, List.map, Option.some.injEq, exists_eq_left']
  refine (iNext_ok lim q _ s i6 d6 m6 f6 t6 H3 hq (by omega) h2).mono ?_
  rintro _ H4 ⟨rfl, h4, c4⟩
  rw [hit_hat] at h4 ⊢
  simp only [o_cont, o_pure, o_nil, POp.ev, Opd.ev, gv, setD, List.set, Option.some.injEq, exists_eq_left', extV, List.getElem?_toArray, List.getElem?_cons_zero, List.getElem?_cons_succ]
  replace L1 := L1.step c4 hqn
  replace L2 := L2.step c4 hqn
  replace fX2 := fX2.chg c4 (.inr (by omega))
  have hn4 := c4.next
  have hlt2 := L2.lt
  have hge2 := L2.ge
  have hge1 := L1.ge
  clear h2 c4
  have hi7 : (if decide (ch s i6 = 94) = true then i6 + 1 else i6) ≤ s.size := by
    split
    · exact ch_lt (s := s) (i := i6) (by simp_all)
    · exact hi6
  obtain ⟨i7, hi7e⟩ : ∃ i7, i7 = if decide (ch s i6 = 94) = true then i6 + 1 else i6 := ⟨_, rfl⟩
  rw [← hi7e] at h4 hi7
  refine s_test_same (!decide (ch s i6 = 94) || !f6) ?_ (fun hno => ?_) (fun hyes => ?_)
  · cases h94 : decide (ch s i6 = 94)
    · simp only [o_pure, o_guard, gk_tf, o_nil, POp.ev, Opd.ev, gv, setD, Option.some.injEq, exists_eq_left', pickV, unV, Bool.not_false]
      simp
    · simp only [o_pure, o_guard, gk_ff, o_nil, POp.ev, Opd.ev, gv, setD, Option.some.injEq, exists_eq_left', pickV, load1V, nilchkV, unV, fadV, Bool.not_true, Nat.zero_add, h4.c4]
      simp
  · obtain ⟨H5, e5, L5, c5, n5⟩ := L1.put2 hl (.int .i64 X.den) slx
    refine s_reg ?_
    simp only [o_pure, o_eff, o_nil, POp.ev, Opd.ev, EOp.ev, gv, setD, Option.some.injEq, exists_eq_left', L2.load2, e5]
    refine s_ret1 ?_
    simp +decide only [p_seq_ret, p_fin_ret, resV, resOne, gv, Option.some.injEq, exists_eq_left', L5.load2]
    have h5 := h4.over c5 (by omega) (by omega)
    refine ⟨L5.chg, X, _, _, _, _, _, gX, ⟨slx, rfl, (fX2.chg c5 (.inr (by omega))).slf.low (by omega)⟩, hi7, h5, ?_⟩
    unfold pFactor
    by_cases h94 : ch s i6 = 94
    · have hf6 : f6 = false := by simpa [h94] using hno
      rcases hcase with ⟨hn, hbad⟩ | ⟨l6, Y, hsm, e, _⟩
      · rw [hn]; exact .inl hf6
      · rw [hf6] at e; cases e
    · simp only [h94, decide_false, Bool.false_eq_true, if_false] at hi7e
      subst hi7e
      rcases hcase with ⟨hn, hbad⟩ | ⟨l6, Y, hsm, rfl, rfl, rfl, _, _, hXY⟩
      · rw [hn]; exact hbad
      · rw [hsm]
        simp only [Option.bind_some]
        rw [if_neg h94]
        exact ⟨trivial, rfl, trivial, rfl, rfl, hXY⟩
  · simp only [Bool.or_eq_false_iff, Bool.not_eq_false', decide_eq_true_eq] at hyes
    obtain ⟨h94, rfl⟩ := hyes
    simp only [h94, decide_true, if_true] at hi7e
    subst hi7e
    obtain ⟨l6, Y, hsm, rfl, rfl, gY, hXY⟩ : ∃ (l6 : Bool) (Y : V), F st = some (⟨i6, m6, l6⟩, Y) ∧ d6 = d ∧ t6 = !l6 ∧ Good Y ∧ (l6 = false → X = Y) := by
      rcases hcase with ⟨hn, hbad⟩ | ⟨l6, Y, hsm, _, e1, e2, _, e3, e4⟩
      · rcases hbad with e | e
        · cases e
        · rw [h94] at e; cases e
      · exact ⟨l6, Y, hsm, e1, e2, e3, e4⟩
    clear hcase
    have hd94 : decide (ch s i6 = 94) = true := by simp [h94]
    rw [hd94]
    refine s_skip1 ?_
    simp +decide only [p_seq_normal]
    refine s_reg ?_
    simp only [o_pure, o_callF, POp.ev, Opd.ev, gv, setD, List.map, Option.some.injEq, exists_eq_left']
    refine (iNext_ok lim q _ s (i6 + 1) d6 m6 true (!l6) H4 hq (by omega) h4).mono ?_
    rintro _ H5 ⟨rfl, h5, c5⟩
    rw [hit_04] at h5 ⊢
    simp only [o_cont, o_pure, o_nil, POp.ev, Opd.ev, gv, setD, List.set, Option.some.injEq, exists_eq_left', extV, List.getElem?_toArray, List.getElem?_cons_zero, List.getElem?_cons_succ]
    obtain ⟨H6, e6, h6, c6⟩ := h5.s4 hq (decide (48 ≤ ch s (i6 + 1) ∧ ch s (i6 + 1) ≤ 52))
    refine s_reg ?_
    simp only [o_pure, o_eff, o_guard, gk_tt, o_nil, POp.ev, Opd.ev, EOp.ev, gv, setD, Option.some.injEq, exists_eq_left', pickV, load1V, nilchkV, fadV, Nat.zero_add, h5.c4, e6]
    have c46 := c5.trans c6
    replace L1 := L1.step c46 hqn
    replace L2 := L2.step c46 hqn
    replace fX2 := fX2.chg c46 (.inr (by omega))
    have hn6 := c46.next
    clear h5 h4 e6 c5 c6
    have hcb := ch_b s (i6 + 1)
    have hf : fillV [.int .i64 0, .int .i64 0, .int .i64 0, .int .i64 0] [(0, 1, .int .i64 1)] = some [.int .i64 1, .int .i64 0, .int .i64 0, .int .i64 0] := rfl
    have hbs : bsliceH H6 1 [.int .i64 0, .int .i64 0, .int .i64 0, .int .i64 0] [(0, 4, .agg #[.int .i64 1, .int .i64 0, .int .i64 0, .int .i64 0])] = some (.slice (some ⟨H6.next, 0, some 0⟩) 1 1, H6.alloc (tc oneT)) := rfl
    have hF1 := SlF.one H6 oneT H6.next (Nat.le_refl _)
    have hx6 := Ext.alloc H6 (tc oneT)
    have hf2 : fillV [.int .i64 0, .slice none 0 0] [(0, 1, .int .i64 1), (1, 1, .slice (some ⟨H6.next, 0, some 0⟩) 1 1)] = some [.int .i64 1, .slice (some ⟨H6.next, 0, some 0⟩) 1 1] := fill2 rfl rfl
    refine s_reg ?_
    simp only [o_pure, o_eff, o_nil, POp.ev, Opd.ev, EOp.ev, gv, setD, List.set, List.map, Option.map_some, Option.some.injEq, exists_eq_left', hf, hbs, hf2]
    generalize H6.alloc (tc oneT) = H7 at hF1 hx6 ⊢
    generalize Value.slice (some ⟨H6.next, 0, some 0⟩) 1 1 = so at hF1 ⊢
    have hn7 := hx6.next
    simp only [Option.some.injEq, exists_eq_left', store2_new (lim := lim) (H := H7) (by omega)]
    replace L1 := L1.ext hx6
    replace L2 := L2.ext hx6
    replace fX2 := (fX2.ext hx6).more (Nat.le_refl H7.next)
    replace hF1 := (hF1.held [p1] (by simp; omega)).more (Nat.le_refl H7.next)
    replace h6 := h6.ext hx6 (by omega)
    have L4 := Loc.mk' L1.chg [.int .i64 1, so]
    have hx7 := Ext.alloc H7 [.int .i64 1, so]
    have hne14 : p1 < H7.next := L1.lt
    have hne24 : p2 < H7.next := L2.lt
    replace L1 := L1.ext hx7
    replace L2 := L2.ext hx7
    replace fX2 := fX2.ext hx7
    replace hF1 := hF1.ext hx7
    replace h6 := h6.ext hx7 (by omega)
    generalize H7.alloc [.int .i64 1, so] = H8 at L1 L2 L4 hx7 fX2 hF1 h6 ⊢
    have hn8 := hx7.next
    generalize H7.next = p4 at L4 fX2 hF1 hne14 hne24 hn8 hn7 hx7
    clear hx7 hx6
    have w1 : ∀ c : Nat, c ≤ 255 → IntKind.i64.wrap (c : Int) = (c : Int) := by intro c hc; rw [IntKind.wrap_i64]; omega
    have w2 : ∀ c : Nat, c ≤ 255 → IntKind.i64.wrap ((c : Int) - 48) = (c : Int) - 48 := by intro c hc; rw [IntKind.wrap_i64]; omega
    by_cases hdg : 48 ≤ ch s (i6 + 1) ∧ ch s (i6 + 1) ≤ 52
    · have hlt7 := ch_lt (s := s) (i := i6 + 1) (by omega)
      simp only [hdg, and_self, decide_true, if_true] at h6 ⊢
      obtain ⟨n0, hn0⟩ : ∃ n0 : Nat, n0 = ch s (i6 + 1) - 48 := ⟨_, rfl⟩
      have ecn : (ch s (i6 + 1) : Int) - 48 = (n0 : Int) := by omega
      refine s_assoc (s_reg ?_)
      have w5 : IntKind.i64.wrap (n0 : Int) = (n0 : Int) := by rw [IntKind.wrap_i64]; omega
      simp only [o_pure, o_nil, POp.ev, Opd.ev, gv, setD, List.set, Option.some.injEq, exists_eq_left', binV, convV, ne_eq, not_true_eq_false, if_false, w1 _ hcb, ecn, w5]
      refine s_block ?_
      refine s_loop1 (fun k e' H' => ∃ (j : Nat) (su : Value) (U Up : V) (l' : Bool), j + k = n0 ∧ Good U ∧ powP k ⟨i6 + 2, m6, l'⟩ Up Y = powP n0 ⟨i6 + 2, m6, l6⟩ oneV Y ∧ (l' = false → U = Up ∧ X = Y) ∧ Held H' H.next [p4, p1] su U.ts ∧ Held H' H.next [p4, p2] slx X.ts ∧ Loc q H H' p1 [.int .i64 0, .slice none 0 0] ∧ Loc q H H' p2 [.int .i64 X.den, slx] ∧ Loc q H H' p4 [.int .i64 U.den, su] ∧ IRd H' q s ((i6 + 2 : Nat) : Int) d6 m6 true (!l') ∧
        e' = [pt q, pt p1, pt p2, .bool true, .int .u8 (ch s (i6 + 1)), .bool true, pt p4, .int .i64 n0, .int .i64 j]) n0 ⟨0, so, oneV, oneV, l6, by omega, oneV_good, rfl, fun e => ⟨rfl, hXY e⟩, hF1.imp id (fun ⟨b, g1, g2, g3, g4⟩ => ⟨b, by omega, g2, g3, g4⟩), fX2.imp id (fun ⟨b, g1, g2, g3, g4⟩ => ⟨b, by omega, g2, g3, g4⟩), L1, L2, L4, h6, rfl⟩ ?_
      clear hF1 fX2 L1 L2 L4 h6
      rintro k e' H8 ⟨j, su, U, Up, l', hjk, gU, hpow, hrel, hU, hX, L1, L2, L4, h8, rfl⟩
      have hn8 := L1.chg.next
      have hlt8 := L4.lt
      refine s_test ?_
      simp only [o_pure, o_nil, POp.ev, Opd.ev, gv, setD, Option.some.injEq, exists_eq_left', binV, ne_eq, not_true_eq_false, if_false]
      refine Test.split (fun hgt => ?_) (fun hgt => ?_)
      · have hj : j < n0 := by simp at hgt; omega
        obtain ⟨k, rfl⟩ : ∃ k', k = k' + 1 := ⟨k - 1, by omega⟩
        refine s_skip1 ?_
        simp +decide only [p_seq_normal]
        refine s_block ?_
        refine s_reg1 ?_
        simp only [o_pure, o_callF, POp.ev, Opd.ev, gv, setD, List.map, Option.some.injEq, exists_eq_left', L4.load2, L2.load2]
        refine (times_ok lim su slx U X H8 (by omega) hU.sl hX.sl gU gX).mono ?_
        rintro _ H9 ⟨⟨sl2, rfl, fW⟩, hx9⟩
        have hn9 := hx9.next
        obtain ⟨W, hW⟩ : ∃ W, W = redV (coll (prodL U.ts X.ts)) (U.den * X.den) := ⟨_, rfl⟩
        rw [← hW] at fW
        have hcl := coll_length (prodL U.ts X.ts)
        have hpl := prod_len gU gX
        have hWl : W.ts.length ≤ 100000 := by rw [hW, redV_len]; omega
        have hWx : ∀ t ∈ W.ts, exS t := by rw [hW]; exact redV_ex (mul_bn gU gX)
        have gW : toldB W = true → Good W := by rw [hW]; exact mul_red_good gU gX
        simp only [o_cont, o_callF, Opd.ev, gv, setD, List.map]
        rw [← hW]
        refine (iKeepR_ok lim q s ((i6 + 2 : Nat) : Int) d6 m6 true l' sl2 W H8.next H9 hq (by omega) (by omega) (by omega) (h8.ext hx9 (by omega)) fW hWl hWx).mono ?_
        rintro _ H10 ⟨sl3, rfl, fK, h10, c10⟩
        have hn10 := c10.next
        obtain ⟨H11, e11, L11, c11, n11⟩ := ((L4.ext hx9).step c10 hqn).put2 hl (.int .i64 (kV l' W).den) sl3
        simp only [o_cont, o_eff, o_nil, Opd.ev, EOp.ev, gv, setD, Option.some.injEq, exists_eq_left', e11]
        simp +decide only [p_seq_normal, p_block_normal]
        refine s_reg1 ?_
        simp only [o_pure, o_nil, POp.ev, Opd.ev, gv, setD, List.set, Option.some.injEq, exists_eq_left', binV, ne_eq, not_true_eq_false, if_false, add1 (i := j) (by omega)]
        simp +decide only [p_seq_normal]
        have hge4 := L4.ge
        have hX' := ((hX.ext hx9).chg c10 (.inr (by omega))).chg c11 (.inl (by simp))
        have L1' := ((L1.ext hx9).step c10 hqn).other c11 (by omega) hge4
        have L2' := ((L2.ext hx9).step c10 hqn).other c11 (by omega) hge4
        have h11 := h10.over c11 (by omega) (by omega)
        have hp : powP (k + 1) ⟨i6 + 2, m6, l'⟩ Up Y = powP k (keepF ⟨i6 + 2, m6, l'⟩ (mulV Up Y)).1 (keepF ⟨i6 + 2, m6, l'⟩ (mulV Up Y)).2 Y := rfl
        rw [hp] at hpow
        have hkr := keep_rel (i := i6 + 2) (m := m6) (l := l') (W := W) (op := mulV Up Y) (fun e => by
          obtain ⟨rfl, rfl⟩ := hrel e
          rw [mul_red, hW])
        have hst : (keepF ⟨i6 + 2, m6, l'⟩ (mulV Up Y)).1 = ⟨i6 + 2, m6, (keepF ⟨i6 + 2, m6, l'⟩ (mulV Up Y)).1.large⟩ := by
          cases mulV Up Y <;> rfl
        rw [hst] at hpow
        rw [hkr.1] at h11
        have hK := ((fK.held [p4, p1] (by simp; omega)).chg c11 (.inl (by simp)))
        refine Round.mk k (by omega) ⟨j + 1, sl3, kV l' W, _, _, by omega, kV_good gW, hpow, fun e => ⟨hkr.2 e, ?_⟩, hK.imp id (fun ⟨b, g1, g2, g3, g4⟩ => ⟨b, by omega, g2, g3, g4⟩), hX', L1', L2', L11, h11, rfl⟩
        rw [keepF_large] at e
        simp only [Bool.or_eq_false_iff] at e
        exact (hrel e.1).2
      · have hk0 : k = 0 := by simp at hgt; omega
        subst hk0
        refine s_exit1 ?_
        simp +decide only [p_seq_normal, p_seq_exit, p_block_exit, reduceIte]
        obtain ⟨H9, e9, L9, c9, n9⟩ := L1.put2 hl (.int .i64 U.den) su
        refine s_reg ?_
        simp only [o_pure, o_eff, o_nil, POp.ev, Opd.ev, EOp.ev, gv, setD, Option.some.injEq, exists_eq_left', L4.load2, e9]
        refine s_ret1 ?_
        simp +decide only [p_fin_ret, resV, resOne, gv, Option.some.injEq, exists_eq_left', L9.load2]
        have h9 := h8.over c9 (by omega) (by omega)
        refine ⟨L9.chg, U, _, _, _, _, _, gU, ⟨su, rfl, (hU.chg c9 (.inl (by simp))).slf⟩, hlt7, h9, ?_⟩
        unfold pFactor
        rw [hsm]
        simp only [Option.bind_some]
        rw [if_pos h94, if_pos hdg, ← hn0, ← hpow]
        exact ⟨trivial, rfl, trivial, rfl, rfl, fun e => (hrel e).1⟩
    · simp only [hdg, decide_false, if_false, Bool.false_eq_true] at h6 ⊢
      refine s_assoc (s_reg ?_)
      have w3 : IntKind.i64.wrap 0 = 0 := rfl
      have w4 : IntKind.i64.wrap (0 - 48) = -48 := rfl
      simp only [o_pure, o_nil, POp.ev, Opd.ev, gv, setD, List.set, Option.some.injEq, exists_eq_left', binV, convV, ne_eq, not_true_eq_false, if_false, w3, w4]
      refine s_block ?_
      refine s_loop1 (fun k e' H' => H' = H8 ∧ e' = [pt q, pt p1, pt p2, .bool true, .int .u8 0, .bool false, pt p4, .int .i64 (-48), .int .i64 0]) 0 ⟨rfl, rfl⟩ ?_
      rintro k e' H' ⟨rfl, rfl⟩
      refine s_test ?_
      simp only [o_pure, o_nil, POp.ev, Opd.ev, gv, setD, Option.some.injEq, exists_eq_left', binV, ne_eq, not_true_eq_false, if_false]
      refine Test.split (fun hgt => ?_) (fun hgt => ?_)
      · exact absurd hgt (by decide)
      · refine s_exit1 ?_
        simp +decide only [p_seq_normal, p_seq_exit, p_block_exit, reduceIte]
        obtain ⟨H9, e9, L9, c9, n9⟩ := L1.put2 hl (.int .i64 1) so
        refine s_reg ?_
        simp only [o_pure, o_eff, o_nil, POp.ev, Opd.ev, EOp.ev, gv, setD, Option.some.injEq, exists_eq_left', L4.load2, e9]
        refine s_ret1 ?_
        simp +decide only [p_fin_ret, resV, resOne, gv, Option.some.injEq, exists_eq_left', L9.load2]
        have hge4 := L4.ge
        have h9 := h6.over c9 (by omega) (by omega)
        refine ⟨L9.chg, oneV, _, _, _, _, _, oneV_good, ⟨so, rfl, (hF1.chg c9 (.inl (by simp))).slf.low (by omega)⟩, ?_, h9, ?_⟩
        · exact hi7
        · unfold pFactor
          rw [hsm]
          simp only [Option.bind_some]
          rw [if_pos h94, if_neg hdg]
          exact .inl trivial
end Go.Proofs.Ytaimceodhhgnnaa
