/- The operations of a symbolic run, one by one: places and parts. -/
import Derived.Test.YtakmgioeldbkcaaX6
namespace Go.Proofs.Ytakmgioeldbkcaa
open Go Go.RowKit

section
variable {P : Program} {ρ : Env} {H : Heap} {B : Nat} {W w : World} {ss : List AV} {a : Act} {o : Oper} {E : Eff}

def effMove (P : Program) (ss : List AV) (T : Nat) (x : Operand) : Option Eff := some { v := evT P ss T x }

theorem effMove_sound {T : Nat} {x : Operand} (hr : Rep ρ H B W w) (hsl : SlotsR ρ ss a.tmps) (ho : o.op = .move x ∨ o.op = .assign x) (h : effMove P ss T x = some E) : Gives P ρ H B W w (execOp a.eval o) E := by
  simp [effMove] at h; subst h
  exact Gives.pure hr (by rcases ho with ho | ho <;> simp [execOp, ho]) (evT_RV hsl T x)

def effPick (P : Program) (ss : List AV) (T : Nat) (c x y : Operand) : Option Eff :=
  match evS ss c with
  | .bool b => match b with
    | true => some { v := evT P ss T x }
    | false => some { v := evT P ss T y }
  | _ => none

theorem effPick_sound {T : Nat} {c x y : Operand} (hr : Rep ρ H B W w) (hsl : SlotsR ρ ss a.tmps) (ho : o.op = .pick c x y) (h : effPick P ss T c x y = some E) : Gives P ρ H B W w (execOp a.eval o) E := by
  unfold effPick at h
  have hc := evS_RV hsl c
  split at h <;> try contradiction
  rename_i b e
  rw [e] at hc
  have hc := RV_bool hc
  split at h <;> simp at h <;> subst h
  · exact Gives.pure hr (by simp [execOp, ho, hc, asBool]) (evT_RV hsl T x)
  · exact Gives.pure hr (by simp [execOp, ho, hc, asBool]) (evT_RV hsl T y)

def effNilCheck (ss : List AV) (x : Operand) : Option Eff :=
  match evS ss x with
  | .ptr k p => some { v := .ptr k p }
  | .fn f cap => some { v := .fn f cap }
  | _ => none

theorem effNilCheck_sound {x : Operand} (hr : Rep ρ H B W w) (hsl : SlotsR ρ ss a.tmps) (ho : o.op = .nilCheck x) (h : effNilCheck ss x = some E) : Gives P ρ H B W w (execOp a.eval o) E := by
  unfold effNilCheck at h
  have hx := evS_RV hsl x
  split at h <;> try contradiction
  · rename_i k p e
    rw [e] at hx
    simp at h; subst h
    obtain ⟨ad, ea, _⟩ := RV_ptr hx
    exact Gives.pure (x := a.eval x) hr (by simp [execOp, ho, ea]) hx
  · rename_i f cap e
    rw [e] at hx
    simp at h; subst h
    have hx' := hx
    simp only [RV, RV1, RC] at hx'
    obtain ⟨xs, _, e2⟩ := hx'
    simp at e2
    exact Gives.pure (x := a.eval x) hr (by simp [execOp, ho, e2]) hx

def effUn (ss : List AV) (op : UnOp) (x : Operand) : Option Eff :=
  match op, evS ss x with
  | .neg, .int k n => some { v := .int k (k.wrap (0 - n)) }
  | .xor, .int k n => some { v := .int k (ixor k (if k.signed then -1 else k.max) n) }
  | .not, .bool b => some { v := .bool (!b) }
  | _, _ => none

theorem effUn_sound {op : UnOp} {T : Nat} {x : Operand} (hr : Rep ρ H B W w) (hsl : SlotsR ρ ss a.tmps) (ho : o.op = .unOp op T x) (h : effUn ss op x = some E) : Gives P ρ H B W w (execOp a.eval o) E := by
  unfold effUn at h
  have hx := evS_RV hsl x
  split at h <;> try contradiction
  · rename_i k n e
    rw [e] at hx; simp at h; subst h
    exact Gives.pure (x := .int k (k.wrap (0 - n))) hr (by simp [execOp, ho, RV_int hx, Op.unary, Op.intArith]) (by simp [RV, RV1, RC])
  · rename_i k n e
    rw [e] at hx; simp at h; subst h
    exact Gives.pure (x := .int k (ixor k (if k.signed then -1 else k.max) n)) hr (by simp only [execOp, ho, RV_int hx, Op.unary, Op.intBits, ixor]; rfl) (by simp [RV, RV1, RC])
  · rename_i b e
    rw [e] at hx; simp at h; subst h
    exact Gives.pure (x := .bool !b) hr (by simp [execOp, ho, RV_bool hx, Op.unary]) (by simp [RV, RV1, RC])

/-- The bytes of a row of numbers. -/
def bytesOf (l : List Int) : ByteArray := ⟨(l.map fun n => UInt8.ofNat n.toNat).toArray⟩

def effConvert (P : Program) (sym : Bool) (ss : List AV) (lk : Nat → Option Blk) (S T : Nat) (x : Operand) : Option Eff :=
  match P.underlying S, P.underlying T, evT P ss S x with
  | some (.int _), some (.int k), .int _ n => some { v := .int k (k.wrap n) }
  | some .string, some .string, .str s => some { v := .str s }
  | some (.slice e), some .string, .nilsl => match P.underlying e with
    | some (.int .u8) => some { v := .str .empty }
    | _ => none
  | some (.slice e), some .string, .sl k p n _ => match P.underlying e, lk k with
    | some (.int .u8), some b => match b.v, p with
      | .ints .u8 m l, [(0, lo, 1)] => (chk sym (Nat.ble (lo + n) m)).map fun ob => { v := .str (bytesOf ((l.drop lo).take n)), ob := ob, rd := [k] }
      | _, _ => none
    | _, _ => none
  | _, _, _ => none

theorem run_bytesToString_list (w : World) (b lo n cap : Nat) (l : List Int) (c1 c3 : List Value) (T : Nat) (mk : Nat × Nat) (h : w.heap[b]? = some (.cells (c1 ++ l.map (Value.int .u8) ++ c3).toArray T mk))
    (ho : c1.length = lo) (hn : l.length = n) : (Conv.bytesToString (.slice (some ⟨b, lo, none⟩) n cap)).run P w = .ok (.string (bytesOf l)) w := by
  have hl := run_load_part (P := P) (p := [(0, lo, 1)]) h (by simp [off, ho])
  simp only [off, Nat.zero_add, Nat.mul_one, Nat.add_zero, List.length_map, hn] at hl
  rw [run_bytesToString w _ n cap l hl]
  congr 2
  have key : ∀ (l : List Int) (s : ByteArray), (l.foldl (fun r n => r.push (UInt8.ofNat n.toNat)) s).data.toList = s.data.toList ++ l.map fun n => UInt8.ofNat n.toNat := by
    intro l
    induction l with
    | nil => intro s; simp
    | cons c l ih => intro s; simp only [List.foldl_cons, ih, List.map_cons]; simp
  apply ByteArray.ext
  apply Array.toList_inj.1
  rw [key]
  simp [bytesOf]

theorem effConvert_sound {sym : Bool} {S T : Nat} {x : Operand} (hr : Rep ρ H B W w) (hsl : SlotsR ρ ss a.tmps) (ho : o.op = .convert S T x) (h : effConvert P sym ss (hget H) S T x = some E) (hob : ∀ b ∈ E.ob, b = true) : Gives P ρ H B W w (execOp a.eval o) E := by
  unfold effConvert at h
  have hx := evT_RV (P := P) hsl S x
  split at h <;> try contradiction
  · rename_i k' k k2 n hS hT e
    rw [e] at hx; simp at h; subst h
    exact Gives.pure (x := .int k (k.wrap n)) hr (by simp [execOp, ho, RV_int hx, convert, run_underlying' hS, run_underlying' hT, Conv.intToInt]) (by simp [RV, RV1, RC])
  · rename_i s hS hT e
    rw [e] at hx; simp at h; subst h
    exact Gives.pure (x := .string s) hr (by simp [execOp, ho, RV_str hx, convert, run_underlying' hS, run_underlying' hT]) (by simp [RV, RV1, RC])
  · rename_i e hS hT ev
    split at h <;> try contradiction
    rename_i he
    rw [ev] at hx; simp at h; subst h
    simp only [RV, RV1, RC] at hx
    simp at hx
    exact Gives.pure (x := .string .empty) hr (by simp [execOp, ho, hx, convert, run_underlying' hS, run_underlying' hT, run_underlying' he, Conv.bytesToString]) (by simp [RV, RV1, RC])
  · rename_i e k p n cap hS hT ev
    split at h <;> try contradiction
    rename_i b he hk
    split at h <;> try contradiction
    rename_i m l lo hbv
    rw [ev] at hx
    simp only [RV, RV1, RC] at hx
    obtain ⟨bb, hb, e2⟩ := hx
    simp at e2
    obtain ⟨bb', cs, mk, hb', hh, hrc, _⟩ := hr.blk k b hk
    rw [hb] at hb'; simp at hb'; subst hb'
    rw [hbv] at hrc
    simp only [RC] at hrc
    obtain ⟨hlen, rfl⟩ := hrc
    cases hc : chk sym (Nat.ble (lo + n) m) with
    | none => simp [hc] at h
    | some q =>
      simp [hc] at h; subst h
      have hle := Nat.le_of_ble_eq_true (chk_sound hc hob)
      have hsplit : l = l.take lo ++ ((l.drop lo).take n) ++ (l.drop lo).drop n := by
        rw [List.append_assoc, List.take_append_drop, List.take_append_drop]
      have hh2 : w.heap[bb]? = some (.cells ((l.take lo).map (Value.int .u8) ++ ((l.drop lo).take n).map (Value.int .u8) ++ ((l.drop lo).drop n).map (Value.int .u8)).toArray b.t mk) := by
        rw [hh]; congr 3; rw [← List.map_append, ← List.map_append, ← hsplit]
      have hrun := run_bytesToString_list (P := P) w bb lo n cap ((l.drop lo).take n) _ _ _ _ hh2 (by simp; omega) (by simp; omega)
      refine Gives.pure (x := .string (bytesOf ((l.drop lo).take n))) hr ?_ (by simp [RV, RV1, RC])
      simp only [off, Nat.zero_add, Nat.mul_one, Nat.add_zero] at e2
      simp [execOp, ho, e2, convert, run_underlying' hS, run_underlying' hT, run_underlying' he, hrun]

def effExtract (ss : List AV) (x : Operand) (i : Nat) : Option Eff :=
  match evS ss x with
  | .tup l => match l[i]? with
    | some v => some { v := v }
    | none => none
  | _ => none

theorem RV1s_get : ∀ (l : List AV) (xs : List Value) (i : Nat) (v : AV), RV1s ρ l xs → l[i]? = some v → ∃ x, xs[i]? = some x ∧ RV1 ρ v x
  | [], xs, i, v, _, hi => by simp at hi
  | c :: l, xs, 0, v, h, hi => by
    simp only [RV1s] at h
    obtain ⟨x, ys, h1, _, rfl⟩ := h
    simp at hi; subst hi
    exact ⟨x, rfl, h1⟩
  | c :: l, xs, i + 1, v, h, hi => by
    simp only [RV1s] at h
    obtain ⟨x, ys, _, h2, rfl⟩ := h
    obtain ⟨y, hy, hv⟩ := RV1s_get l ys i v h2 (by simpa using hi)
    exact ⟨y, by simpa using hy, hv⟩

theorem RV_of_RV1 {v : AV} {x : Value} (h : RV1 ρ v x) : RV ρ v x := by
  cases v <;> simp only [RV, RV1] at * <;> exact h

theorem effExtract_sound {x : Operand} {i : Nat} (hr : Rep ρ H B W w) (hsl : SlotsR ρ ss a.tmps) (ho : o.op = .extract x i) (h : effExtract ss x i = some E) : Gives P ρ H B W w (execOp a.eval o) E := by
  unfold effExtract at h
  have hx := evS_RV hsl x
  split at h <;> try contradiction
  rename_i l e
  rw [e] at hx
  split at h <;> try contradiction
  rename_i v hv
  simp at h; subst h
  simp only [RV] at hx
  obtain ⟨xs, h1, e2⟩ := hx
  obtain ⟨y, hy, hyv⟩ := RV1s_get l xs i v h1 hv
  refine Gives.pure (x := y) hr ?_ (RV_of_RV1 hyv)
  simp [execOp, ho, e2, Instr.extract, hy]

/-- A place further on in a row. -/
def bump (n : Nat) : Path → Option Path
  | [] => none
  | [(b, i, s)] => some [(b, i + n, s)]
  | q :: p => (bump n p).map (q :: ·)

def lastS : Path → Nat
  | [] => 0
  | [(_, _, s)] => s
  | _ :: p => lastS p

theorem off_bump (n : Nat) : ∀ (p q : Path), bump n p = some q → off q = off p + n * lastS p ∧ lastS q = lastS p
  | [], q, h => by simp [bump] at h
  | [(b, i, s)], q, h => by simp [bump] at h; subst h; simp [off, lastS, Nat.add_mul]; omega
  | (b, i, s) :: r :: p, q, h => by
    simp only [bump] at h
    cases hb : bump n (r :: p) with
    | none => simp [hb] at h
    | some q' =>
      simp [hb] at h; subst h
      obtain ⟨h1, h2⟩ := off_bump n (r :: p) q' hb
      have hq : q' ≠ [] := by
        rintro rfl
        cases p with
        | nil => simp [bump] at hb
        | cons r2 p => simp [bump] at hb
      constructor
      · simp only [off, h1, lastS]; omega
      · cases q' with
        | nil => exact absurd rfl hq
        | cons y q' => simpa [lastS] using h2

def effIndexAddr (P : Program) (sym : Bool) (ss : List AV) (T : Nat) (x ix : Operand) : Option Eff :=
  match evS ss ix with
  | .int _ i => match P.underlying T with
    | some (.array n e) => match evS ss x, P.underlying e with
      | .ptr k p, some _ => (chk sym (decide (0 ≤ i) && decide (i < n))).map fun ob => { v := .ptr k (p ++ [(0, i.toNat, P.cellsOf e)]), ob := ob }
      | _, _ => none
    | some (.slice e) => match evS ss x, P.underlying e with
      | .sl k p n _, some _ => match Nat.beq (lastS p) (P.cellsOf e), bump i.toNat p with
        | true, some q => (chk sym (decide (0 ≤ i) && decide (i < n))).map fun ob => { v := .ptr k q, ob := ob }
        | _, _ => none
      | _, _ => none
    | _ => none
  | _ => none

theorem addr_add (b o n : Nat) : (⟨b, o, none⟩ : Addr).add n = ⟨b, o + n, none⟩ := by unfold Addr.add; split <;> simp_all

theorem effIndexAddr_sound {sym : Bool} {T : Nat} {x ix : Operand} (hr : Rep ρ H B W w) (hsl : SlotsR ρ ss a.tmps) (ho : o.op = .indexAddr T x ix) (h : effIndexAddr P sym ss T x ix = some E) (hob : ∀ b ∈ E.ob, b = true) : Gives P ρ H B W w (execOp a.eval o) E := by
  unfold effIndexAddr at h
  have hi := evS_RV hsl ix
  have hx := evS_RV hsl x
  split at h <;> try contradiction
  rename_i ki i ei
  rw [ei] at hi
  have hi := RV_int hi
  split at h <;> try contradiction
  · rename_i n e hT
    split at h <;> try contradiction
    rename_i k p d ex he
    rw [ex] at hx
    cases hc : chk sym (decide (0 ≤ i) && decide (i < n)) with
    | none => simp [hc] at h
    | some q =>
      simp [hc] at h; subst h
      have := chk_sound hc hob
      simp only [Bool.and_eq_true, decide_eq_true_eq] at this
      simp only [RV, RV1, RC] at hx
      obtain ⟨b, hb, e2⟩ := hx
      simp at e2
      refine Gives.pure (x := .pointer (some ⟨b, off p + i.toNat * P.cellsOf e, none⟩)) hr ?_ ?_
      · simp [execOp, ho, hi, e2, Instr.indexAt, asIntOf, run_underlying' hT, Instr.sureAddr, this, run_sizeOf' he, addr_add]
      · simp only [RV, RV1, RC]
        exact ⟨b, hb, by simp [off_append, off]⟩
  · rename_i e hT
    split at h <;> try contradiction
    rename_i k p n cap d ex he
    split at h <;> try contradiction
    rename_i q hls hbm
    rw [ex] at hx
    cases hc : chk sym (decide (0 ≤ i) && decide (i < n)) with
    | none => simp [hc] at h
    | some q =>
      simp [hc] at h; subst h
      have := chk_sound hc hob
      simp only [Bool.and_eq_true, decide_eq_true_eq] at this
      simp only [RV, RV1, RC] at hx
      obtain ⟨b, hb, e2⟩ := hx
      simp at e2
      have hls := Nat.eq_of_beq_eq_true hls
      obtain ⟨ho1, _⟩ := off_bump _ _ _ hbm
      rw [hls] at ho1
      refine Gives.pure (x := .pointer (some ⟨b, off p + i.toNat * P.cellsOf e, none⟩)) hr ?_ ?_
      · simp [execOp, ho, hi, e2, Instr.indexAt, asIntOf, run_underlying' hT, this, run_sizeOf' he, addr_add]
      · simp only [RV, RV1, RC]
        exact ⟨b, hb, by rw [ho1]⟩

def effFieldAddr (P : Program) (ss : List AV) (S : Nat) (x : Operand) (f : Nat) : Option Eff :=
  match P.underlying S with
  | some (.struct fs) => match fs.toList[f]? with
    | some fd => match P.underlying fd.type, Nat.beq (P.cellsOf fd.type) 0, evS ss x with
      | some _, false, .ptr k p => some { v := .ptr k (p ++ [(fd.offset, f, 0)]) }
      | _, _, _ => none
    | none => none
  | _ => none

theorem effFieldAddr_sound {S : Nat} {x : Operand} {f : Nat} (hr : Rep ρ H B W w) (hsl : SlotsR ρ ss a.tmps) (ho : o.op = .fieldAddr S x f) (h : effFieldAddr P ss S x f = some E) : Gives P ρ H B W w (execOp a.eval o) E := by
  unfold effFieldAddr at h
  have hx := evS_RV hsl x
  split at h <;> try contradiction
  rename_i fs hS
  split at h <;> try contradiction
  rename_i fd hf
  split at h <;> try contradiction
  rename_i d k p hd hz ex
  simp at h; subst h
  rw [ex] at hx
  simp only [RV, RV1, RC] at hx
  obtain ⟨b, hb, e2⟩ := hx
  simp at e2
  have hz : P.cellsOf fd.type ≠ 0 := by intro h0; rw [h0] at hz; simp at hz
  have hf : fs[f]? = some fd := by simpa using hf
  refine Gives.pure (x := .pointer (some ⟨b, off p + fd.offset, none⟩)) hr ?_ ?_
  · simp [execOp, ho, e2, Instr.fieldAt, run_underlying' hS, hf, Instr.sureAddr, fieldPlace, run_sizeOf' hd, hz, addr_add]
  · simp only [RV, RV1, RC]
    exact ⟨b, hb, by simp [off_append, off]⟩

/-- A part of a value in a slot. -/
def effPart (P : Program) (sym : Bool) (T : Nat) (v : AV) (p : Path) : Option Eff :=
  match v.isAgg, P.underlying T, v.get sym p with
  | true, some _, some (ob, c) => match isAggT P T with
    | true => match c.isAgg && Nat.beq c.size (P.cellsOf T) with
      | true => some { v := c, ob := ob }
      | false => none
    | false => match c.one with
      | true => some { v := c, ob := ob }
      | false => none
  | _, _, _ => none

theorem RV_agg {v : AV} {x : Value} (h : RV ρ v x) (ha : v.isAgg = true) : ∃ cs : List Value, x = .agg cs.toArray ∧ RC ρ v cs := by
  have hc := h.cells (by simp [ha])
  cases v <;> simp only [AV.isAgg] at ha <;> try contradiction
  all_goals simp only [RV, RV1] at h
  · subst h; exact ⟨_, rfl, by simpa [Value.cells] using hc⟩
  · obtain ⟨_, rfl⟩ := h; exact ⟨_, rfl, by simpa [Value.cells] using hc⟩
  · obtain ⟨cs, h1, rfl⟩ := h; exact ⟨cs, rfl, by simpa [RC] using h1⟩

theorem effPart_sound {sym : Bool} {T : Nat} {v : AV} {x : Value} {p : Path} (hv : RV ρ v x) (h : effPart P sym T v p = some E) (hob : ∀ b ∈ E.ob, b = true) :
    ∃ (cs : Array Value) (y : Value), x = .agg cs ∧ (part T cs (off p)).run P w = .ok y w ∧ RV ρ E.v y ∧ E.wr = none := by
  unfold effPart at h
  split at h <;> try contradiction
  rename_i d ob c ha hd hg
  obtain ⟨cs, rfl, hrc⟩ := RV_agg hv ha
  split at h
  · rename_i ht
    split at h <;> try contradiction
    rename_i hc
    simp only [Bool.and_eq_true] at hc
    simp at h; subst h
    obtain ⟨c1, c2, c3, rfl, hl, hcc⟩ := AV.get_sound sym p _ _ _ _ hrc hg hob
    have hsz := RC.length _ _ hcc
    refine ⟨_, .agg c2.toArray, rfl, ?_, RV.of_cells hcc hc.1, rfl⟩
    have hk := Nat.eq_of_beq_eq_true hc.2
    simp only [part, Sem.run_bind, run_isAgg' hd, Result.andThen_ok, ht, if_true, run_sizeOf' hd, Sem.run_pure, ← hk, ← hsz, ← hl]
    congr 2
    simp
  · rename_i ht
    split at h <;> try contradiction
    rename_i hc
    simp at h; subst h
    obtain ⟨c1, c2, c3, rfl, hl, hcc⟩ := AV.get_sound sym p _ _ _ _ hrc hg hob
    obtain ⟨y, rfl, hy, _⟩ := RV.of_cell hcc hc
    refine ⟨_, y, rfl, ?_, hy, rfl⟩
    simp [part, run_isAgg' hd, ht, ← hl]

def effField (P : Program) (sym : Bool) (ss : List AV) (S : Nat) (x : Operand) (f : Nat) : Option Eff :=
  match P.underlying S with
  | some (.struct fs) => match fs.toList[f]? with
    | some fd => effPart P sym fd.type (evT P ss S x) [(fd.offset, f, 0)]
    | none => none
  | _ => none

theorem effField_sound {sym : Bool} {S : Nat} {x : Operand} {f : Nat} (hr : Rep ρ H B W w) (hsl : SlotsR ρ ss a.tmps) (ho : o.op = .field S x f) (h : effField P sym ss S x f = some E) (hob : ∀ b ∈ E.ob, b = true) : Gives P ρ H B W w (execOp a.eval o) E := by
  unfold effField at h
  split at h <;> try contradiction
  rename_i fs hS
  split at h <;> try contradiction
  rename_i fd hf
  obtain ⟨cs, y, e, hp, hy, hw⟩ := effPart_sound (w := w) (evT_RV (P := P) hsl S x) h hob
  have hf : fs[f]? = some fd := by simpa using hf
  simp only [off, Nat.mul_zero, Nat.add_zero] at hp
  have : E = { v := E.v, ob := E.ob, rd := E.rd } := by cases E; simp_all
  rw [this]
  refine Gives.pure (x := y) hr ?_ hy
  simp [execOp, ho, Instr.field, run_underlying' hS, hf, e, asAgg, hp]

def byteAt (s : ByteArray) (i : Nat) : Int := ((s.data.toList.getD i 0).toNat : Int)

def effIndex (P : Program) (sym : Bool) (ss : List AV) (T : Nat) (x ix : Operand) : Option Eff :=
  match evS ss ix with
  | .int _ i => match P.underlying T with
    | some (.array n e) => match chk sym (decide (0 ≤ i) && decide (i < n)), effPart P sym e (evT P ss T x) [(0, i.toNat, P.cellsOf e)], P.underlying e with
      | some ob, some F, some _ => some { v := F.v, ob := ob ++ F.ob }
      | _, _, _ => none
    | some .string => match evT P ss T x with
      | .str s => (chk sym (decide (0 ≤ i) && decide (i < s.size))).map fun ob => { v := .int .u8 (byteAt s i.toNat), ob := ob }
      | _ => none
    | _ => none
  | _ => none

theorem effIndex_sound {sym : Bool} {T : Nat} {x ix : Operand} (hr : Rep ρ H B W w) (hsl : SlotsR ρ ss a.tmps) (ho : o.op = .index T x ix) (h : effIndex P sym ss T x ix = some E) (hob : ∀ b ∈ E.ob, b = true) : Gives P ρ H B W w (execOp a.eval o) E := by
  unfold effIndex at h
  have hi := evS_RV hsl ix
  have hx := evT_RV (P := P) hsl T x
  split at h <;> try contradiction
  rename_i ki i ei
  rw [ei] at hi
  have hi := RV_int hi
  split at h <;> try contradiction
  · rename_i n e hT
    split at h <;> try contradiction
    rename_i ob F d hc hF he
    simp at h; subst h
    have := chk_sound hc (fun b hb => hob b (by simp [hb]))
    simp only [Bool.and_eq_true, decide_eq_true_eq] at this
    obtain ⟨cs, y, e2, hp, hy, hw⟩ := effPart_sound (w := w) hx hF (fun b hb => hob b (by simp [hb]))
    simp only [off, Nat.zero_add, Nat.add_zero] at hp
    refine Gives.pure (x := y) hr ?_ hy
    simp [execOp, ho, hi, e2, Instr.index, asIntOf, run_underlying' hT, this, run_sizeOf' he, hp]
  · rename_i hT
    split at h <;> try contradiction
    rename_i s es
    rw [es] at hx
    cases hc : chk sym (decide (0 ≤ i) && decide (i < s.size)) with
    | none => simp [hc] at h
    | some q =>
      simp [hc] at h; subst h
      have := chk_sound hc hob
      simp only [Bool.and_eq_true, decide_eq_true_eq] at this
      have hlt : i.toNat < s.size := by omega
      refine Gives.pure (x := .int .u8 (byteAt s i.toNat)) hr ?_ (by simp [RV, RV1, RC])
      have hb : s[i.toNat]? = some s[i.toNat] := by simp [hlt]
      have hb2 : byteAt s i.toNat = (s[i.toNat].toNat : Int) := by
        unfold byteAt
        have : s.data.toList.getD i.toNat 0 = s[i.toNat] := by
          simp only [List.getD]
          rw [List.getElem?_eq_getElem (by simpa using hlt)]
          rfl
        rw [this]
      simp [execOp, ho, hi, RV_str hx, Instr.index, asIntOf, run_underlying' hT, this.1, hb, hb2]

def effMakeFunc (ss : List AV) (f : Fn) (first captured : List Operand) : Option Eff :=
  match f, first with
  | .func f, [] => match (captured.map (evS ss)).all AV.one with
    | true => some { v := .fn f (captured.map (evS ss)) }
    | false => none
  | _, _ => none

theorem effMakeFunc_sound {f : Fn} {first captured : Array Operand} (hr : Rep ρ H B W w) (hsl : SlotsR ρ ss a.tmps) (ho : o.op = .makeFunc f first captured) (h : effMakeFunc ss f first.toList captured.toList = some E) : Gives P ρ H B W w (execOp a.eval o) E := by
  unfold effMakeFunc at h
  split at h <;> try contradiction
  rename_i f hf
  split at h <;> try contradiction
  rename_i hall
  simp at h; subst h
  have hf : first = #[] := by cases first; simp_all
  have key : ∀ (l : List Operand), (l.map (evS ss)).all AV.one = true → RCs ρ (l.map (evS ss)) (l.map a.eval) := by
    intro l
    induction l with
    | nil => intro _; simp [RCs]
    | cons x l ih =>
      intro hl
      simp only [List.map_cons, List.all_cons, Bool.and_eq_true] at hl
      have hx := (evS_RV hsl x).cells (by simp [hl.1])
      obtain ⟨y, e, _, _⟩ := RV.of_cell hx hl.1
      have h1 : (a.eval x).cells.toList = [a.eval x] := by
        have hv := evS_RV hsl x
        have : isAggV (a.eval x) = false := by
          cases hh : evS ss x <;> rw [hh] at hv hl <;> simp only [AV.one] at hl <;> (try exact absurd hl.1 (by decide)) <;> simp only [RV, RV1, RC] at hv
          all_goals first
            | (simp at hv; rw [hv]; rfl)
            | (obtain ⟨_, _, e⟩ := hv; simp at e; rw [e]; rfl)
            | (obtain ⟨h1, e⟩ := hv; simp at e; rw [e]; rename_i v; cases v <;> first | rfl | simp [Value.oneCell'] at h1)
        exact isAggV_cells this
      simp only [List.map_cons, RCs]
      rw [h1] at hx
      exact ⟨[a.eval x], l.map a.eval, hx, ih hl.2, rfl⟩
  refine Gives.pure (x := .func (.func f) #[] (captured.map a.eval)) hr ?_ ?_
  · simp [execOp, ho, Instr.makeFunc, hf]
  · simp only [RV, RV1, RC]
    exact ⟨captured.toList.map a.eval, key _ hall, by rw [← List.map_toArray]⟩
end
end Go.Proofs.Ytakmgioeldbkcaa
