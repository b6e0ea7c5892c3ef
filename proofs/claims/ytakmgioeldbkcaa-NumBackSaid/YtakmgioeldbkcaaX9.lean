/- The operations of a symbolic run: slices that are written out, builtins; all operations; what an operation hangs on. -/
import Derived.Test.YtakmgioeldbkcaaX8
namespace Go.Proofs.Ytakmgioeldbkcaa
open Go Go.RowKit

section
variable {P : Program} {ρ : Env} {H : Heap} {B : Nat} {W w : World} {ss : List AV} {a : Act} {o : Oper} {E : Eff}

theorem RCs_append : ∀ (l m : List AV) (c d : List Value), RCs ρ l c → RCs ρ m d → RCs ρ (l ++ m) (c ++ d)
  | [], m, c, d, h1, h2 => by simp only [RCs] at h1; subst h1; simpa using h2
  | v :: l, m, c, d, h1, h2 => by
    simp only [RCs] at h1
    obtain ⟨c1, c2, h3, h4, rfl⟩ := h1
    simp only [List.cons_append, RCs]
    exact ⟨c1, c2 ++ d, h3, RCs_append l m c2 d h4 h2, by simp⟩

theorem repeat_zero (z : Array Value) (s : Nat) (hz : z.size = s) : ∀ n : Nat, (List.range (n * s)).map (fun i => z[i % z.size]!) = (List.replicate n z.toList).flatten
  | 0 => by simp
  | n + 1 => by
    have ih := repeat_zero z s hz n
    rw [Nat.add_mul, Nat.one_mul, List.range_add, List.map_append, ih, List.replicate_succ', List.flatten_append]
    congr 1
    simp only [List.map_map, List.flatten_cons, List.flatten_nil, List.append_nil]
    apply List.ext_getElem
    · simp [hz]
    · intro i h1 h2
      simp at h1
      have hm : (n * s + i) % z.size = i := by rw [hz, Nat.add_comm, Nat.add_mul_mod_self_right, Nat.mod_eq_of_lt h1]
      have hi : i < z.size := by omega
      simp only [List.getElem_map, Function.comp, List.getElem_range, hm, Array.getElem_toList]
      exact getElem!_pos z i hi

theorem RCs_replicate {z : AV} {zs : List Value} (h : RC ρ z zs) : ∀ n : Nat, RCs ρ (List.replicate n z) (List.replicate n zs).flatten
  | 0 => by simp [RCs]
  | n + 1 => by
    simp only [List.replicate_succ, List.flatten_cons, RCs]
    exact ⟨zs, _, h, RCs_replicate h n, rfl⟩

def zeroRow (P : Program) (e n : Nat) : Option AV :=
  match P.underlying e with
  | some (.int k) => some (.ints k n (List.replicate n 0))
  | _ => (zeroAV P e).map fun z => .agg (List.replicate n z)

def zeroInt (P : Program) (e : Nat) : Bool :=
  match P.underlying e, P.info? e with
  | some (.int k), some i => match i.zero with
    | some (.int k' n) => kindEq k k' && decide (n = 0)
    | _ => false
  | some (.int _), none => false
  | _, _ => true

theorem replicate_flatten_one {α : Type} (x : α) (n : Nat) : (List.replicate n [x]).flatten = List.replicate n x := by
  induction n with
  | zero => rfl
  | succ n ih => simp [List.replicate_succ, ih]

theorem zeroRow_sound {e n : Nat} {r : AV} (h : zeroRow P e n = some r) (hz : zeroInt P e = true) {z : Value} (hr : (zeroValue e).run P w = .ok z w) (hs : z.cells.size = P.cellsOf e) :
    RC ρ r ((List.range (n * P.cellsOf e)).map (fun i => z.cells[i % z.cells.size]!)) := by
  rw [repeat_zero z.cells _ hs n]
  unfold zeroRow at h
  unfold zeroInt at hz
  split at h
  · rename_i k hk
    simp at h; subst h
    simp only [hk] at hz
    split at hz <;> try contradiction
    · rename_i k2 i hi hk2
      simp at hi; subst hi
      split at hz <;> try contradiction
      rename_i k' m hm
      simp only [Bool.and_eq_true, decide_eq_true_eq] at hz
      have h1 := kindEq_eq hz.1
      have h2 := hz.2
      subst h1 h2
      have : z = .int k 0 := by
        simp [zeroValue, typeInfo, hk2, hm] at hr
        exact hr.symm
      subst this
      simp only [RC, Value.cells]
      refine ⟨by simp, ?_⟩
      simp
    · rename_i hne _
      obtain ⟨i, hi⟩ := info_of_underlying hk
      exact (hne k i rfl hi).elim
  · cases hzz : zeroAV P e with
    | none => simp [hzz] at h
    | some y =>
      simp [hzz] at h; subst h
      obtain ⟨v, hv, hc⟩ := zeroAV_sound (ρ := ρ) (w := w) hzz
      rw [hr] at hv
      simp at hv; subst hv
      simp only [RC]
      exact RCs_replicate hc n

def effBuildSlice (P : Program) (ss : List AV) (lk : Nat → Option Blk) (key T n : Nat) (parts : List (Nat × Operand)) : Option Eff :=
  match P.underlying T with
  | some (.slice e) => match P.underlying e, P.info? e with
    | some _, some i => match i.zero with
      | some z => match zeroInt P e && Nat.ble (n * P.cellsOf e) 16777216 && Nat.beq z.cells.size (P.cellsOf e) && Nat.ble 1 (n * P.cellsOf e), lk key with
        | true, none => (zeroRow P e n).bind fun r => (setParts r (arrayParts P ss e parts)).map fun v => { v := .sl key [(0, 0, P.cellsOf e)] n n, rd := [key], wr := some (key, ⟨e, v, true⟩) }
        | _, _ => none
      | none => none
    | _, _ => none
  | _ => none

theorem effBuildSlice_sound {key T n : Nat} {parts : Array (Nat × Operand)} (hr : Rep ρ H B W w) (hsl : SlotsR ρ ss a.tmps) (ho : o.op = .buildSlice T n parts) (h : effBuildSlice P ss (hget H) key T n parts.toList = some E) : Gives P ρ H B W w (execOp a.eval o) E := by
  unfold effBuildSlice at h
  split at h <;> try contradiction
  rename_i e hT
  split at h <;> try contradiction
  rename_i d i he hi
  split at h <;> try contradiction
  rename_i z hz
  split at h <;> try contradiction
  rename_i hc hk
  simp only [Bool.and_eq_true] at hc
  obtain ⟨⟨⟨h1, h2⟩, h3⟩, h4⟩ := hc
  have h2 := Nat.le_of_ble_eq_true h2
  have h3 := Nat.eq_of_beq_eq_true h3
  have h4 := Nat.le_of_ble_eq_true h4
  have hzr : (zeroValue e).run P w = .ok z w := by simp [zeroValue, typeInfo, hi, hz]
  cases hzrow : zeroRow P e n with
  | none => simp [hzrow] at h
  | some r =>
    simp only [hzrow, Option.bind_some] at h
    cases hs : setParts r (arrayParts P ss e parts.toList) with
    | none => simp [hs] at h
    | some v =>
      simp [hs] at h; subst h
      have hbase := zeroRow_sound (ρ := ρ) hzrow h1 hzr h3
      obtain ⟨l, e1, e2, e3⟩ := arrayParts_list (P := P) (a := a) hsl e parts.toList
      obtain ⟨cs', hf, hrc⟩ := fill_run (fun i => some (i * P.cellsOf e, P.cellsOf e)) l r v _ hbase e3 (by rw [e1]; exact hs)
      rw [e2] at hf
      obtain ⟨hle, hrep⟩ := hr.alloc (T := e) hk hrc
      refine ⟨.slice (some ⟨w.heap.size, 0, none⟩) n n, _, w.alloc (.cells cs'.toArray e), .inl ?_, hle, ?_, hrep⟩
      · have hne : ¬ (n * P.cellsOf e = 0) := by omega
        have hle2 : ¬ (n * P.cellsOf e > 16777216) := by omega
        have hrange : (Array.range (n * P.cellsOf e)).map (fun i => z.cells[i % z.cells.size]!) = ((List.range (n * P.cellsOf e)).map (fun i => z.cells[i % z.cells.size]!)).toArray := by
          apply Array.toList_inj.1; simp
        simp only [execOp, ho, Instr.buildSlice, Sem.run_bind, run_underlying' hT, Result.andThen_ok, run_sizeOf' he]
        rw [if_neg (by simpa using hle2)]
        rw [if_neg hne]
        simp only [Sem.run_bind, hzr, Sem.run_pure, Result.andThen_ok, hrange]
        have hp : (parts.map fun x => (x.1, a.eval x.2)).toList = parts.toList.map fun p => (p.1, a.eval p.2) := by simp
        simp only [hp, hf]
        simp [newRow]
      · simp only [RV, RV1, RC]
        exact ⟨w.heap.size, by simp [upd], by simp [off]⟩

def roomK (b : Nat) (l c : Int) : Bool := decide (0 ≤ l) && decide (l ≤ c) && decide (c ≤ 4611686018427387904) && decide (c.toNat * b ≤ 140737488355328)

def effMakeSlice (P : Program) (sym : Bool) (ss : List AV) (lk : Nat → Option Blk) (key T : Nat) (x y : Operand) : Option Eff :=
  match P.underlying T with
  | some (.slice e) => match P.underlying e, P.info? e, evS ss x, evS ss y with
    | some _, some i, .int _ l, .int _ c => match i.zero with
      | some z => match zeroInt P e && Nat.beq z.cells.size (P.cellsOf e), lk key, chk sym (roomK i.bytes l c) with
        | true, none, some ob => (zeroRow P e c.toNat).map fun r => { v := .sl key [(0, 0, P.cellsOf e)] l.toNat c.toNat, ob := ob, rd := [key], wr := some (key, ⟨e, r, true⟩) }
        | _, _, _ => none
      | none => none
    | _, _, _, _ => none
  | _ => none

theorem wrap_i64_id {n : Int} (h0 : 0 ≤ n) (h1 : n ≤ 4611686018427387904) : IntKind.i64.wrap n = n := by
  simp [IntKind.wrap, IntKind.signed, IntKind.bits]; omega

theorem effMakeSlice_sound {sym : Bool} {key T : Nat} {x y : Operand} (hr : Rep ρ H B W w) (hsl : SlotsR ρ ss a.tmps) (ho : o.op = .makeSlice T x y) (h : effMakeSlice P sym ss (hget H) key T x y = some E) (hob : ∀ b ∈ E.ob, b = true) : Gives P ρ H B W w (execOp a.eval o) E := by
  unfold effMakeSlice at h
  split at h <;> try contradiction
  rename_i e hT
  split at h <;> try contradiction
  rename_i d i k1 l k2 c he hi ex ey
  split at h <;> try contradiction
  rename_i z hz
  split at h <;> try contradiction
  rename_i ob hc hk hch
  simp only [Bool.and_eq_true] at hc
  obtain ⟨h1, h3⟩ := hc
  have h3 := Nat.eq_of_beq_eq_true h3
  have hx := evS_RV hsl x
  have hy := evS_RV hsl y
  rw [ex] at hx; rw [ey] at hy
  have hx := RV_int hx
  have hy := RV_int hy
  have hzr : (zeroValue e).run P w = .ok z w := by simp [zeroValue, typeInfo, hi, hz]
  cases hzrow : zeroRow P e c.toNat with
  | none => simp [hzrow] at h
  | some r =>
    simp [hzrow] at h; subst h
    have hroom := chk_sound hch hob
    simp only [roomK, Bool.and_eq_true, decide_eq_true_eq] at hroom
    obtain ⟨⟨⟨r1, r2⟩, r3⟩, r4⟩ := hroom
    have hbase := zeroRow_sound (ρ := ρ) hzrow h1 hzr h3
    obtain ⟨hle, hrep⟩ := hr.alloc (T := e) hk hbase
    refine ⟨.slice (some ⟨w.heap.size, 0, none⟩) l.toNat c.toNat, _, w.alloc (.cells ((List.range (c.toNat * P.cellsOf e)).map (fun i => z.cells[i % z.cells.size]!)).toArray e), .inl ?_, hle, ?_, hrep⟩
    · have wl : IntKind.i64.wrap l = l := wrap_i64_id r1 (by omega)
      have wc : IntKind.i64.wrap c = c := wrap_i64_id (by omega) r3
      have hc0 : 0 ≤ c := by omega
      obtain ⟨m, rfl⟩ := Int.eq_ofNat_of_zero_le hc0
      have r4' : m * i.bytes ≤ 140737488355328 := by simpa using r4
      have t1 : ¬ ((m : Int) < 0) := by omega
      have t2 : ¬ ((i.bytes : Int) * (m : Int) > 2 ^ 48) := by
        have : ((i.bytes : Int) * (m : Int)) = ((m * i.bytes : Nat) : Int) := by rw [Nat.mul_comm]; simp
        rw [this]; omega
      have t2' : ¬ (281474976710656 < (i.bytes : Int) * (m : Int)) := by omega
      have t3 : ¬ (l < 0) := by omega
      have t4 : ¬ (l > (m : Int)) := by omega
      have hrange : ∀ zz : Array Value, (m * P.cellsOf e = 0 ∨ zz = z.cells) → (Array.range (m * P.cellsOf e)).map (fun i => zz[i % zz.size]!) = ((List.range (m * P.cellsOf e)).map (fun i => z.cells[i % z.cells.size]!)).toArray := by
        intro zz hzz
        apply Array.toList_inj.1
        rcases hzz with h0 | rfl
        · rw [h0]; simp
        · simp
      have hkey : (Instr.makeSlice T (.int k1 l) (.int k2 m)).run P w = .ok (.slice (some ⟨w.heap.size, 0, none⟩) l.toNat m) (w.alloc (.cells ((List.range (m * P.cellsOf e)).map (fun i => z.cells[i % z.cells.size]!)).toArray e)) := by
        by_cases h0 : m * P.cellsOf e = 0
        · simp [Instr.makeSlice, run_underlying' hT, typeInfo, hi, wl, wc, t1, t2', t3, t4, asInt, asIntOf, askRoom, run_sizeOf' he, h0, newRow]
          congr 2
          apply Array.toList_inj.1; simp
        · simp [Instr.makeSlice, run_underlying' hT, typeInfo, hi, wl, wc, t1, t2', t3, t4, asInt, asIntOf, askRoom, run_sizeOf' he, h0, newRow, hzr]
          rw [hrange _ (.inr rfl)]
      simp [execOp, ho, hx, hy, hkey]
    · simp only [RV, RV1, RC]
      exact ⟨w.heap.size, by simp [upd], by simp [off]⟩

/-- A slice, seen as an array: the place of its first 'n' elements. -/
def effArrPtr (P : Program) (ss : List AV) (T : Nat) (x : Operand) : Option Eff :=
  match P.underlying T, evS ss x with
  | some (.array n _), .sl k [(0, lo, 1)] len _ => match Nat.ble n len with
    | true => some { v := .ptr k [(lo, n, 0)] }
    | false => none
  | _, _ => none

theorem effArrPtr_sound {T : Nat} {x : Operand} (hr : Rep ρ H B W w) (hsl : SlotsR ρ ss a.tmps) (ho : o.op = .sliceToArrayPointer T x) (h : effArrPtr P ss T x = some E) : Gives P ρ H B W w (execOp a.eval o) E := by
  unfold effArrPtr at h
  have hx := evS_RV hsl x
  split at h <;> try contradiction
  rename_i n e k lo len cap hT ex
  split at h <;> try contradiction
  rename_i hle
  have hle := Nat.le_of_ble_eq_true hle
  simp at h; subst h
  rw [ex] at hx
  simp only [RV, RV1, RC] at hx
  obtain ⟨b, hb, e2⟩ := hx
  simp [off] at e2
  refine Gives.pure (x := .pointer (some ⟨b, lo, none⟩)) hr ?_ ?_
  · simp [execOp, ho, e2, Instr.arrayAt, run_underlying' hT, show ¬ len < n by omega]
  · simp only [RV, RV1, RC]
    exact ⟨b, hb, by simp [off]⟩

def ints2 (ss : List AV) : List Operand → Option (IntKind × Int × Int)
  | [x, y] => match evS ss x, evS ss y with
    | .int k p, .int k2 q => match kindEq k k2 with
      | true => some (k, p, q)
      | false => none
    | _, _ => none
  | _ => none

def effBuiltin (P : Program) (ss : List AV) (b : Go.Builtin) (ts : List Nat) (xs : List Operand) : Option Eff :=
  match b with
  | .len => match ts, xs with
    | [t], [x] => match P.underlying t with
      | some .string => match evT P ss t x with
        | .str s => some { v := .int .i64 s.size }
        | _ => none
      | some (.array n _) => some { v := .int .i64 n }
      | some (.slice _) => match evS ss x with
        | .sl _ _ n _ => some { v := .int .i64 n }
        | .nilsl => some { v := .int .i64 0 }
        | _ => none
      | _ => none
    | _, _ => none
  | .max => (ints2 ss xs).map fun r => { v := .int r.1 (if r.2.2 > r.2.1 then r.2.2 else r.2.1) }
  | .min => (ints2 ss xs).map fun r => { v := .int r.1 (if r.2.2 < r.2.1 then r.2.2 else r.2.1) }
  | _ => none

theorem ints2_sound {xs : List Operand} {r : IntKind × Int × Int} (hsl : SlotsR ρ ss a.tmps) (h : ints2 ss xs = some r) : ∃ x y, xs = [x, y] ∧ a.eval x = .int r.1 r.2.1 ∧ a.eval y = .int r.1 r.2.2 := by
  unfold ints2 at h
  split at h <;> try contradiction
  rename_i x y
  split at h <;> try contradiction
  rename_i k p k2 q e1 e2
  split at h <;> try contradiction
  rename_i hk
  have hk := kindEq_eq hk
  subst hk
  simp at h; subst h
  have hx := evS_RV hsl x
  have hy := evS_RV hsl y
  rw [e1] at hx; rw [e2] at hy
  exact ⟨x, y, rfl, RV_int hx, RV_int hy⟩

theorem effBuiltin_sound {b : Go.Builtin} {c : Call} (hr : Rep ρ H B W w) (hsl : SlotsR ρ ss a.tmps) (ho : o.op = .call c) (hcb : c.callee = .builtin b) (h : effBuiltin P ss b c.argTypes.toList c.args.toList = some E) : Gives P ρ H B W w (execOp a.eval o) E := by
  have hargs : c.args = c.args.toList.toArray := by simp
  have htys : c.argTypes = c.argTypes.toList.toArray := by simp
  unfold effBuiltin at h
  split at h <;> try contradiction
  · split at h <;> try contradiction
    rename_i t x e1 e2
    rw [e1] at htys; rw [e2] at hargs
    split at h <;> try contradiction
    · rename_i ht
      split at h <;> try contradiction
      rename_i s es
      simp at h; subst h
      have hx := evT_RV (P := P) hsl t x
      rw [es] at hx
      refine Gives.pure (x := .int .i64 s.size) hr ?_ (by simp [RV, RV1, RC])
      simp [execOp, ho, resolve, hcb, invoke, builtin, hargs, htys, Go.Builtin.len_, run_underlying' ht, RV_str hx, goInt]
    · rename_i n e ht
      simp at h; subst h
      refine Gives.pure (x := .int .i64 n) hr ?_ (by simp [RV, RV1, RC])
      simp [execOp, ho, resolve, hcb, invoke, builtin, hargs, htys, Go.Builtin.len_, run_underlying' ht, goInt]
    · rename_i e ht
      have hx := evS_RV hsl x
      split at h <;> try contradiction
      · rename_i k p n cap es
        simp at h; subst h
        rw [es] at hx
        simp only [RV, RV1, RC] at hx
        obtain ⟨b, hb, e2⟩ := hx
        simp at e2
        refine Gives.pure (x := .int .i64 n) hr ?_ (by simp [RV, RV1, RC])
        simp [execOp, ho, resolve, hcb, invoke, builtin, hargs, htys, Go.Builtin.len_, run_underlying' ht, e2, goInt]
      · rename_i es
        simp at h; subst h
        rw [es] at hx
        simp only [RV, RV1, RC] at hx
        simp at hx
        refine Gives.pure (x := .int .i64 0) hr ?_ (by simp [RV, RV1, RC])
        simp [execOp, ho, resolve, hcb, invoke, builtin, hargs, htys, Go.Builtin.len_, run_underlying' ht, hx, goInt]
  · cases hi : ints2 ss c.args.toList with
    | none => simp [hi] at h
    | some r =>
      simp [hi] at h; subst h
      obtain ⟨x, y, e, hx, hy⟩ := ints2_sound (a := a) hsl hi
      rw [e] at hargs
      refine Gives.pure (x := .int r.1 (if r.2.2 > r.2.1 then r.2.2 else r.2.1)) hr ?_ (by simp [RV, RV1, RC])
      simp [execOp, ho, resolve, hcb, invoke, builtin, hargs, Go.Builtin.max_, Go.Builtin.max2, hx, hy]
  · cases hi : ints2 ss c.args.toList with
    | none => simp [hi] at h
    | some r =>
      simp [hi] at h; subst h
      obtain ⟨x, y, e, hx, hy⟩ := ints2_sound (a := a) hsl hi
      rw [e] at hargs
      refine Gives.pure (x := .int r.1 (if r.2.2 < r.2.1 then r.2.2 else r.2.1)) hr ?_ (by simp [RV, RV1, RC])
      simp [execOp, ho, resolve, hcb, invoke, builtin, hargs, Go.Builtin.min_, Go.Builtin.min2, hx, hy]

/-- One operation but for calls of functions. -/
def effOp (P : Program) (sym : Bool) (key : Nat) (ss : List AV) (lk : Nat → Option Blk) (o : Oper) : Option Eff :=
  match o.op with
  | .move x | .assign x => effMove P ss o.type x
  | .pick c x y => effPick P ss o.type c x y
  | .alloc T => effAlloc P lk key T
  | .box T x => effBox P ss lk key T x
  | .build T ps => effBuild P ss T ps.toList
  | .buildSlice T n ps => effBuildSlice P ss lk key T n ps.toList
  | .makeSlice T x y => effMakeSlice P sym ss lk key T x y
  | .load T x => effLoad P sym ss lk T x
  | .store T x y => effStore P sym ss lk T x y
  | .nilCheck x => effNilCheck ss x
  | .binOp op T x y _ => effBin P sym ss op T x y
  | .unOp op _ x => effUn ss op x
  | .convert S T x => effConvert P sym ss lk S T x
  | .sliceToArrayPointer T x => effArrPtr P ss T x
  | .makeFunc f l c => effMakeFunc ss f l.toList c.toList
  | .slice T x lo hi mx => effSlice P sym ss T x lo hi mx
  | .fieldAddr S x f => effFieldAddr P ss S x f
  | .field S x f => effField P sym ss S x f
  | .indexAddr T x i => effIndexAddr P sym ss T x i
  | .index T x i => effIndex P sym ss T x i
  | .extract x i => effExtract ss x i
  | .call c => match c.callee with
    | .builtin b => effBuiltin P ss b c.argTypes.toList c.args.toList
    | _ => none
  | _ => none

theorem effOp_sound {sym : Bool} {key : Nat} (hr : Rep ρ H B W w) (hsl : SlotsR ρ ss a.tmps) (h : effOp P sym key ss (hget H) o = some E) (hob : ∀ b ∈ E.ob, b = true) :
    Gives P ρ H B W w (execOp a.eval o) E := by
  unfold effOp at h
  split at h <;> try contradiction
  · exact effMove_sound hr hsl (.inl ‹_›) h
  · exact effMove_sound hr hsl (.inr ‹_›) h
  · exact effPick_sound hr hsl ‹_› h
  · exact effAlloc_sound hr ‹_› h
  · exact effBox_sound hr hsl ‹_› h
  · exact effBuild_sound hr hsl ‹_› h
  · exact effBuildSlice_sound hr hsl ‹_› h
  · exact effMakeSlice_sound hr hsl ‹_› h hob
  · exact effLoad_sound hr hsl ‹_› h hob
  · exact effStore_sound hr hsl ‹_› h hob
  · exact effNilCheck_sound hr hsl ‹_› h
  · exact effBin_sound hr hsl ‹_› h hob
  · exact effUn_sound hr hsl ‹_› h
  · exact effConvert_sound hr hsl ‹_› h hob
  · exact effArrPtr_sound hr hsl ‹_› h
  · exact effMakeFunc_sound hr hsl ‹_› h
  · exact effSlice_sound hr hsl ‹_› h hob
  · exact effFieldAddr_sound hr hsl ‹_› h
  · exact effField_sound hr hsl ‹_› h hob
  · exact effIndexAddr_sound hr hsl ‹_› h hob
  · exact effIndex_sound hr hsl ‹_› h hob
  · exact effExtract_sound hr hsl ‹_› h
  · split at h <;> try contradiction
    exact effBuiltin_sound hr hsl ‹_› ‹_› h
end
end Go.Proofs.Ytakmgioeldbkcaa
