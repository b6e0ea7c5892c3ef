/- The operations of a symbolic run, one by one. -/
import Derived.Test.YtakmgioeldbkcaaX3
namespace Go.Proofs.Ytakmgioeldbkcaa
open Go Go.RowKit

/-! ### A constant of a type, in parts -/
def takeInts (k : IntKind) : Nat → List Value → Option (List Int × List Value)
  | 0, cs => some ([], cs)
  | m + 1, .int k' n :: cs => match kindEq k k' with
    | true => (takeInts k m cs).map fun r => (n :: r.1, r.2)
    | false => none
  | _ + 1, _ => none

theorem takeInts_eq (k : IntKind) : ∀ (m : Nat) (cs : List Value) (l : List Int) (r : List Value), takeInts k m cs = some (l, r) → cs = l.map (Value.int k) ++ r ∧ l.length = m
  | 0, cs, l, r, h => by simp [takeInts] at h; obtain ⟨rfl, rfl⟩ := h; simp
  | m + 1, [], l, r, h => by simp [takeInts] at h
  | m + 1, c :: cs, l, r, h => by
    cases c <;> simp only [takeInts] at h <;> try contradiction
    split at h
    · rename_i hk
      cases hr : takeInts k m cs with
      | none => simp [hr] at h
      | some q =>
        simp [hr] at h
        obtain ⟨rfl, rfl⟩ := h
        obtain ⟨h1, h2⟩ := takeInts_eq k m cs q.1 q.2 hr
        rw [← kindEq_eq hk]
        exact ⟨by simpa using h1, by simp [h2]⟩
    · contradiction

def parseN (g : List Value → Option (AV × List Value)) : Nat → List Value → Option (List AV × List Value)
  | 0, cs => some ([], cs)
  | m + 1, cs => (g cs).bind fun r => (parseN g m r.2).map fun q => (r.1 :: q.1, q.2)

def parseL (g : Nat → List Value → Option (AV × List Value)) : List Field → List Value → Option (List AV × List Value)
  | [], cs => some ([], cs)
  | f :: fs, cs => (g f.type cs).bind fun r => (parseL g fs r.2).map fun q => (r.1 :: q.1, q.2)

def parse (P : Program) : Nat → Nat → List Value → Option (AV × List Value)
  | 0, _, _ => none
  | n + 1, T, cs => match P.underlying T with
    | some (.array m e) => match P.underlying e with
      | some (.int k) => (takeInts k m cs).map fun r => (.ints k m r.1, r.2)
      | _ => (parseN (parse P n e) m cs).map fun r => (.agg r.1, r.2)
    | some (.struct fs) => (parseL (parse P n) fs.toList cs).map fun r => (.agg r.1, r.2)
    | _ => match cs with
      | [] => none
      | v :: r => match v.oneCell' with
        | true => some (ofS v, r)
        | false => none

def Parses (ρ : Env) (g : List Value → Option (AV × List Value)) : Prop := ∀ cs v r, g cs = some (v, r) → ∃ c, cs = c ++ r ∧ RC ρ v c

theorem parseN_sound {ρ : Env} {g : List Value → Option (AV × List Value)} (hg : Parses ρ g) : ∀ (m : Nat) (cs : List Value) (l : List AV) (r : List Value), parseN g m cs = some (l, r) → ∃ c, cs = c ++ r ∧ RCs ρ l c
  | 0, cs, l, r, h => by simp [parseN] at h; obtain ⟨rfl, rfl⟩ := h; exact ⟨[], by simp, by simp [RCs]⟩
  | m + 1, cs, l, r, h => by
    simp only [parseN] at h
    cases h1 : g cs with
    | none => simp [h1] at h
    | some q =>
      simp [h1] at h
      obtain ⟨a, ⟨h2, rfl⟩⟩ := h
      obtain ⟨c1, e1, r1⟩ := hg cs q.1 q.2 h1
      obtain ⟨c2, e2, r2⟩ := parseN_sound hg m q.2 _ _ h2
      exact ⟨c1 ++ c2, by rw [e1, e2]; simp, by simp only [RCs]; exact ⟨c1, c2, r1, r2, rfl⟩⟩

theorem parseL_sound {ρ : Env} {g : Nat → List Value → Option (AV × List Value)} (hg : ∀ t, Parses ρ (g t)) : ∀ (fs : List Field) (cs : List Value) (l : List AV) (r : List Value), parseL g fs cs = some (l, r) → ∃ c, cs = c ++ r ∧ RCs ρ l c
  | [], cs, l, r, h => by simp [parseL] at h; obtain ⟨rfl, rfl⟩ := h; exact ⟨[], by simp, by simp [RCs]⟩
  | f :: fs, cs, l, r, h => by
    simp only [parseL] at h
    cases h1 : g f.type cs with
    | none => simp [h1] at h
    | some q =>
      simp [h1] at h
      obtain ⟨a, ⟨h2, rfl⟩⟩ := h
      obtain ⟨c1, e1, r1⟩ := hg f.type cs q.1 q.2 h1
      obtain ⟨c2, e2, r2⟩ := parseL_sound hg fs q.2 _ _ h2
      exact ⟨c1 ++ c2, by rw [e1, e2]; simp, by simp only [RCs]; exact ⟨c1, c2, r1, r2, rfl⟩⟩

theorem parse_sound (P : Program) (ρ : Env) : ∀ (n T : Nat), Parses ρ (parse P n T)
  | 0, _ => by intro cs v r h; simp [parse] at h
  | n + 1, T => by
    have last : ∀ (cs : List Value) (v : AV) (r : List Value), (match cs with
        | [] => none
        | v :: r => match v.oneCell' with
          | true => some (ofS v, r)
          | false => none) = some (v, r) → ∃ c, cs = c ++ r ∧ RC ρ v c := by
      intro cs v r h
      cases cs with
      | nil => simp at h
      | cons c cs =>
        simp only at h
        split at h
        · rename_i h1
          simp at h
          obtain ⟨rfl, rfl⟩ := h
          exact ⟨[c], rfl, ofS_RC ρ c h1⟩
        · contradiction
    intro cs v r h
    simp only [parse] at h
    split at h
    · rename_i m e _
      split at h
      · rename_i k _
        cases h1 : takeInts k m cs with
        | none => simp [h1] at h
        | some q =>
          simp [h1] at h
          obtain ⟨rfl, rfl⟩ := h
          obtain ⟨e1, e2⟩ := takeInts_eq k m cs q.1 q.2 h1
          exact ⟨_, e1, by simp only [RC]; exact ⟨e2, trivial⟩⟩
      · cases h1 : parseN (parse P n e) m cs with
        | none => simp [h1] at h
        | some q =>
          simp [h1] at h
          obtain ⟨rfl, rfl⟩ := h
          obtain ⟨c, e1, e2⟩ := parseN_sound (parse_sound P ρ n e) m cs q.1 q.2 h1
          exact ⟨c, e1, by simpa only [RC] using e2⟩
    · rename_i fs _
      cases h1 : parseL (parse P n) fs.toList cs with
      | none => simp [h1] at h
      | some q =>
        simp [h1] at h
        obtain ⟨rfl, rfl⟩ := h
        obtain ⟨c, e1, e2⟩ := parseL_sound (fun t => parse_sound P ρ n t) fs.toList cs q.1 q.2 h1
        exact ⟨c, e1, by simpa only [RC] using e2⟩
    · exact last cs v r h

def isAggV : Value → Bool
  | .agg _ => true
  | _ => false
theorem isAggV_eq {v : Value} (h : isAggV v = true) : v = .agg v.cells := by cases v <;> first | rfl | simp [isAggV] at h
theorem isAggV_cells {v : Value} (h : isAggV v = false) : v.cells.toList = [v] := by cases v <;> first | rfl | simp [isAggV] at h

/-- A value 'v' without places, as one of type 'T'. -/
def shapeV (P : Program) (T : Nat) (v : Value) : Option AV :=
  match parse P 20 T v.cells.toList with
  | some (a, []) => match isAggT P T && isAggV v && a.isAgg || !isAggT P T && !isAggV v && a.one with
    | true => some a
    | false => none
  | _ => none

theorem shapeV_sound {P : Program} {T : Nat} {v : Value} {a : AV} (ρ : Env) (h : shapeV P T v = some a) : RC ρ a v.cells.toList ∧ RV ρ a v ∧ (a.isAgg || a.one) = true := by
  unfold shapeV at h
  split at h <;> try contradiction
  rename_i a' hp
  obtain ⟨c, e1, hr⟩ := parse_sound P ρ 20 T _ _ _ hp
  simp at e1; subst e1
  split at h <;> try contradiction
  rename_i hc
  simp at h; subst h
  simp only [Bool.or_eq_true, Bool.and_eq_true, Bool.not_eq_true'] at hc
  rcases hc with ⟨⟨_, h2⟩, h3⟩ | ⟨⟨_, h2⟩, h3⟩
  · refine ⟨hr, ?_, by simp [h3]⟩
    have := RV.of_cells hr h3
    rw [isAggV_eq h2]
    simpa using this
  · refine ⟨hr, ?_, by simp [h3]⟩
    obtain ⟨x, e, hx, h1⟩ := RV.of_cell hr h3
    rw [isAggV_cells h2] at e
    simp at e; subst e
    exact hx

/-- An operand of a type: a constant is taken apart by it. -/
def evT (P : Program) (ss : List AV) (T : Nat) (x : Operand) : AV :=
  match x with
  | .const v => (shapeV P T v).getD (ofV v)
  | x => evS ss x

theorem evT_RV {P : Program} {ρ : Env} {ss : List AV} {a : Act} (h : SlotsR ρ ss a.tmps) (T : Nat) (x : Operand) : RV ρ (evT P ss T x) (a.eval x) := by
  unfold evT
  split
  · rename_i v
    cases hs : shapeV P T v with
    | none => exact ofV_RV ρ v
    | some c => exact (shapeV_sound ρ hs).2.1
  · exact evS_RV h _

/-! ### What an operation gives -/
def Gives (P : Program) (ρ : Env) (H : Heap) (B : Nat) (W w : World) (s : Sem Next) (E : Eff) : Prop :=
  ∃ x ρ' w', (s.run P w = .ok (.value x) w' ∨ (s.run P w = .ok .skip w' ∧ x = undef)) ∧ Env.le ρ ρ' ∧ RV ρ' E.v x ∧ Rep ρ' (Eff.app H E.wr) B W w'

theorem Gives.pure {P : Program} {ρ : Env} {H : Heap} {B : Nat} {W w : World} {s : Sem Next} {v : AV} {x : Value} {ob : List Bool} {rd : List Nat} (hr : Rep ρ H B W w) (h : s.run P w = .ok (.value x) w) (hv : RV ρ v x) :
    Gives P ρ H B W w s { v := v, ob := ob, rd := rd } := ⟨x, ρ, w, .inl h, Env.le.refl ρ, hv, hr⟩

section
variable {P : Program} {ρ : Env} {H : Heap} {B : Nat} {W w : World} {ss : List AV} {a : Act} {o : Oper} {E : Eff}

/-- A new block for 'v'. -/
def effNew (lk : Nat → Option Blk) (key T : Nat) (v : AV) : Option Eff :=
  match v.isAgg || v.one, lk key with
  | true, none => some { v := .ptr key [], rd := [key], wr := some (key, ⟨T, v, true⟩) }
  | _, _ => none

theorem newVar_run (T : Nat) (v : Value) : (newVar T v).run P w = .ok ⟨w.heap.size, 0, none⟩ (w.alloc (.cells v.cells T)) := by
  simp [newVar, newRow]

theorem effNew_sound {key T : Nat} {v : AV} {x : Value} {s : Sem Next} (hr : Rep ρ H B W w) (hv : RC ρ v x.cells.toList)
    (hs : s.run P w = .ok (.value (.pointer (some ⟨w.heap.size, 0, none⟩))) (w.alloc (.cells x.cells T))) (h : effNew (hget H) key T v = some E) : Gives P ρ H B W w s E := by
  unfold effNew at h
  split at h <;> try contradiction
  rename_i hk
  simp at h; subst h
  obtain ⟨h1, h2⟩ := hr.alloc (T := T) hk hv
  simp only [Array.toArray_toList] at h2
  exact ⟨_, _, _, .inl hs, h1, by simp [RV, RV1, RC, upd, off], h2⟩

def effAlloc (P : Program) (lk : Nat → Option Blk) (key T : Nat) : Option Eff :=
  match P.info? T with
  | some i => match i.zero with
    | some z => (shapeV P T z).bind fun v => effNew lk key T v
    | none => none
  | none => none

theorem effAlloc_sound {key T : Nat} (hr : Rep ρ H B W w) (ho : o.op = .alloc T) (h : effAlloc P (hget H) key T = some E) : Gives P ρ H B W w (execOp a.eval o) E := by
  unfold effAlloc at h
  split at h <;> try contradiction
  rename_i i hi
  split at h <;> try contradiction
  rename_i z hz
  cases hs : shapeV P T z with
  | none => simp [hs] at h
  | some v =>
    simp only [hs, Option.bind_some] at h
    refine effNew_sound (x := z) hr (shapeV_sound ρ hs).1 ?_ h
    simp [execOp, ho, Instr.alloc, zeroValue, typeInfo, hi, hz, newVar_run]

def effBox (P : Program) (ss : List AV) (lk : Nat → Option Blk) (key T : Nat) (x : Operand) : Option Eff := effNew lk key T (evT P ss T x)

theorem effBox_sound {key T : Nat} {x : Operand} (hr : Rep ρ H B W w) (hsl : SlotsR ρ ss a.tmps) (ho : o.op = .box T x) (h : effBox P ss (hget H) key T x = some E) : Gives P ρ H B W w (execOp a.eval o) E := by
  unfold effBox at h
  have hv := evT_RV (P := P) hsl T x
  have hc : ((evT P ss T x).isAgg || (evT P ss T x).one) = true := by
    unfold effNew at h
    split at h <;> try contradiction
    assumption
  refine effNew_sound hr (hv.cells hc) ?_ h
  simp [execOp, ho, Instr.box, newVar_run]

def Path.step (p : Path) (b i s : Nat) : Path := p ++ [(b, i, s)]
theorem off_append : ∀ (p q : Path), off (p ++ q) = off p + off q
  | [], q => by simp [off]
  | (b, i, s) :: p, q => by simp only [List.cons_append, off, off_append p q]; omega

def effLoad (P : Program) (sym : Bool) (ss : List AV) (lk : Nat → Option Blk) (T : Nat) (x : Operand) : Option Eff :=
  match evS ss x with
  | .ptr k p => match lk k with
    | some b => match b.v.get sym p, P.underlying T with
      | some (ob, c), some _ => match isAggT P T with
        | true => match c.isAgg && Nat.beq c.size (P.cellsOf T) with
          | true => some { v := c, ob := ob, rd := [k] }
          | false => none
        | false => match c.one with
          | true => some { v := c, ob := ob, rd := [k] }
          | false => none
      | _, _ => none
    | none => none
  | _ => none

theorem loadVar_run {T : Nat} {k : Nat} {p : Path} {b : Blk} {ob : List Bool} {c : AV} {ad : Addr} {d : TypeDesc} (sym : Bool) (hr : Rep ρ H B W w) (hk : hget H k = some b) (hp : RC ρ (.ptr k p) [.pointer (some ad)])
    (hg : b.v.get sym p = some (ob, c)) (hob : ∀ b ∈ ob, b = true) (hd : P.underlying T = some d)
    (hT : if isAggT P T = true then c.isAgg = true ∧ c.size = P.cellsOf T else c.one = true) : ∃ x, (loadVar T ad).run P w = .ok x w ∧ RV ρ c x := by
  simp only [RC] at hp
  obtain ⟨bb, hb, e⟩ := hp
  simp at e; subst e
  obtain ⟨bb', cs, mk, hb', hh, hrc, _⟩ := hr.blk k b hk
  rw [hb] at hb'; simp at hb'; subst hb'
  obtain ⟨c1, c2, c3, rfl, hl, hc⟩ := AV.get_sound sym p _ _ _ _ hrc hg hob
  cases ht : isAggT P T with
  | true =>
    rw [if_pos ht] at hT
    have hsz := RC.length _ _ hc
    refine ⟨.agg c2.toArray, ?_, RV.of_cells hc hT.1⟩
    simp only [loadVar, Sem.run_bind, run_isAgg' hd, Result.andThen_ok, ht, if_true, run_sizeOf' hd, ← hT.2, ← hsz, run_load_part hh hl, Sem.run_pure]
  | false =>
    rw [if_neg (by simp [ht])] at hT
    obtain ⟨x, rfl, hx, _⟩ := RV.of_cell hc hT
    refine ⟨x, ?_, hx⟩
    simp only [loadVar, Sem.run_bind, run_isAgg' hd, Result.andThen_ok, ht, run_load_one hh hl, Bool.false_eq_true, if_false]

theorem RV_ptr {k : Nat} {p : Path} {x : Value} (h : RV ρ (.ptr k p) x) : ∃ ad, x = .pointer (some ad) ∧ RC ρ (.ptr k p) [.pointer (some ad)] := by
  simp only [RV, RV1, RC] at h
  obtain ⟨b, hb, e⟩ := h
  simp at e
  exact ⟨_, e, by simp only [RC]; exact ⟨b, hb, rfl⟩⟩

theorem effLoad_sound {sym : Bool} {T : Nat} {x : Operand} (hr : Rep ρ H B W w) (hsl : SlotsR ρ ss a.tmps) (ho : o.op = .load T x) (h : effLoad P sym ss (hget H) T x = some E) (hob : ∀ b ∈ E.ob, b = true) : Gives P ρ H B W w (execOp a.eval o) E := by
  unfold effLoad at h
  have hx := evS_RV hsl x
  split at h <;> try contradiction
  rename_i k p he
  rw [he] at hx
  obtain ⟨ad, ex, hp⟩ := RV_ptr hx
  split at h <;> try contradiction
  rename_i b hk
  split at h <;> try contradiction
  rename_i ob c d hg hd
  have key : (if isAggT P T = true then c.isAgg = true ∧ c.size = P.cellsOf T else c.one = true) ∧ E = { v := c, ob := ob, rd := [k] } := by
    split at h
    · rename_i ht
      split at h <;> try contradiction
      rename_i hc
      simp at h
      simp only [Bool.and_eq_true] at hc
      rw [if_pos ht]
      exact ⟨⟨hc.1, Nat.eq_of_beq_eq_true hc.2⟩, h.symm⟩
    · rename_i ht
      split at h <;> try contradiction
      rename_i hc
      simp at h
      rw [if_neg (by simp [ht])]
      exact ⟨hc, h.symm⟩
  obtain ⟨hT, rfl⟩ := key
  obtain ⟨y, hy, hv⟩ := loadVar_run sym hr hk hp hg hob hd hT
  refine Gives.pure hr ?_ hv
  simp [execOp, ho, Instr.loadAt, ex, Instr.sureAddr, hy]

def effStore (P : Program) (sym : Bool) (ss : List AV) (lk : Nat → Option Blk) (T : Nat) (x y : Operand) : Option Eff :=
  match evS ss x with
  | .ptr k p => match lk k with
    | some b => match b.own, b.v.set sym p (evT P ss T y), P.underlying T with
      | true, some (ob, v'), some _ => match ((evT P ss T y).isAgg || (evT P ss T y).one) && Nat.beq (evT P ss T y).size (P.cellsOf T) with
        | true => some { v := .undef, ob := ob, rd := [k], wr := some (k, { b with v := v' }) }
        | false => none
      | _, _, _ => none
    | none => none
  | _ => none

theorem effStore_sound {sym : Bool} {T : Nat} {x y : Operand} (hr : Rep ρ H B W w) (hsl : SlotsR ρ ss a.tmps) (ho : o.op = .store T x y) (h : effStore P sym ss (hget H) T x y = some E) (hob : ∀ b ∈ E.ob, b = true) : Gives P ρ H B W w (execOp a.eval o) E := by
  unfold effStore at h
  have hx := evS_RV hsl x
  have hy := evT_RV (P := P) hsl T y
  split at h <;> try contradiction
  rename_i k p he
  rw [he] at hx
  obtain ⟨ad, ex, hp⟩ := RV_ptr hx
  split at h <;> try contradiction
  rename_i b hk
  split at h <;> try contradiction
  rename_i ob v' d hown hset hd
  split at h <;> try contradiction
  rename_i hc
  simp at h; subst h
  simp only [Bool.and_eq_true] at hc
  obtain ⟨hc1, hc2⟩ := hc
  have hc2 := Nat.eq_of_beq_eq_true hc2
  have hcc := hy.cells hc1
  simp only [RC] at hp
  obtain ⟨bb, hb, e⟩ := hp
  simp at e; subst e
  obtain ⟨bb', cs, mk, hb', hh, hrc, hO⟩ := hr.blk k b hk
  rw [hb] at hb'; simp at hb'; subst hb'
  obtain ⟨_, rfl⟩ := hO hown
  obtain ⟨c1, c2, c3, rfl, hl, hl2, hrc'⟩ := AV.set_sound sym p _ _ _ _ _ _ hrc hcc hset hob
  have hsz := RC.length _ _ hcc
  refine ⟨undef, ρ, w.setRow bb (c1 ++ (a.eval y).cells.toList ++ c3).toArray, .inr ⟨?_, rfl⟩, Env.le.refl ρ, by simp [RV, RV1], hr.setRow hk hb hown hrc'⟩
  have hst := run_store_part (P := P) hh hl hl2 (RC.each _ _ hcc)
  have hsz' : (a.eval y).cells.size = P.cellsOf T := by rw [← hc2, ← hsz]; simp
  simp [execOp, ho, Instr.storeAt, ex, Instr.sureAddr, storeVar, run_sizeOf' hd, hsz', hst]
end
end Go.Proofs.Ytakmgioeldbkcaa
