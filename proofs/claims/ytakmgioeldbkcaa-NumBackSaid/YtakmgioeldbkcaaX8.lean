/- The operations of a symbolic run, one by one: slices, composites, builtins; all of them. -/
import Derived.Test.YtakmgioeldbkcaaX7
namespace Go.Proofs.Ytakmgioeldbkcaa
open Go Go.RowKit

section
variable {P : Program} {ρ : Env} {H : Heap} {B : Nat} {W w : World} {ss : List AV} {a : Act} {o : Oper} {E : Eff}

def bnd (sym : Bool) (ss : List AV) (v : Option Operand) (dflt y : Nat) : Option (List Bool × Nat) :=
  match v with
  | none => some ([], dflt)
  | some x => match evS ss x with
    | .int _ i => (chk sym (decide (0 ≤ i) && decide (i ≤ y))).map fun ob => (ob, i.toNat)
    | _ => none

theorem bnd_sound {sym : Bool} {v : Option Operand} {dflt y n : Nat} {ob : List Bool} {code : Go.BoundsCode} (hsl : SlotsR ρ ss a.tmps) (h : bnd sym ss v dflt y = some (ob, n)) (hob : ∀ b ∈ ob, b = true) :
    ((match v.map a.eval with
      | some v => Instr.sliceBound v y code
      | none => Pure.pure dflt : Sem Nat)).run P w = .ok n w ∧ (v = none ∧ n = dflt ∨ n ≤ y) := by
  unfold bnd at h
  split at h
  · simp at h; obtain ⟨_, rfl⟩ := h; exact ⟨rfl, .inl ⟨rfl, rfl⟩⟩
  · rename_i x
    split at h <;> try contradiction
    rename_i k i e
    have hx := evS_RV hsl x
    rw [e] at hx
    cases hc : chk sym (decide (0 ≤ i) && decide (i ≤ y)) with
    | none => simp [hc] at h
    | some q =>
      simp [hc] at h; obtain ⟨rfl, rfl⟩ := h
      have := chk_sound hc hob
      simp only [Bool.and_eq_true, decide_eq_true_eq] at this
      refine ⟨?_, .inr (by omega)⟩
      simp [RV_int hx, Instr.sliceBound, asIntOf, this]

def effSlice (P : Program) (sym : Bool) (ss : List AV) (T : Nat) (x : Operand) (lo hi mx : Option Operand) : Option Eff :=
  match mx with
  | some _ => none
  | none => match P.underlying T with
    | some (.array n e) => match evS ss x, P.underlying e, bnd sym ss hi n n with
      | .ptr k p, some _, some (o1, h) => match bnd sym ss lo 0 h with
        | some (o2, l) => match Nat.beq n l with
          | true => none
          | false => some { v := .sl k (p ++ [(0, l, P.cellsOf e)]) (h - l) (n - l), ob := o1 ++ o2 }
        | none => none
      | _, _, _ => none
    | some .string => match evT P ss T x with
      | .str s => match bnd sym ss hi s.size s.size with
        | some (o1, h) => match bnd sym ss lo 0 h with
          | some (o2, l) => some { v := .str (s.extract l h), ob := o1 ++ o2 }
          | none => none
        | none => none
      | _ => none
    | _ => none

theorem sliceBounds_run {sym isSlice : Bool} {lo hi : Option Operand} {len cap h l : Nat} {o1 o2 : List Bool} (hsl : SlotsR ρ ss a.tmps) (h1 : bnd sym ss hi len cap = some (o1, h)) (h2 : bnd sym ss lo 0 h = some (o2, l))
    (hob1 : ∀ b ∈ o1, b = true) (hob2 : ∀ b ∈ o2, b = true) : (Instr.sliceBounds isSlice len cap (lo.map a.eval) (hi.map a.eval) none).run P w = .ok (l, h, cap) w := by
  have r1 := (bnd_sound (P := P) (w := w) (a := a) (code := if isSlice then .sliceAcap else .sliceAlen) hsl h1 hob1).1
  have r2 := (bnd_sound (P := P) (w := w) (a := a) (code := .sliceB) hsl h2 hob2).1
  cases lo <;> cases hi <;> simp only [Option.map_none, Option.map_some] at r1 r2 ⊢ <;> simp only [Instr.sliceBounds, Sem.run_bind, Sem.run_pure, Result.andThen_ok] <;>
    (try simp only [Sem.run_pure] at r1 r2) <;> simp_all

theorem effSlice_sound {sym : Bool} {T : Nat} {x : Operand} {lo hi mx : Option Operand} (hr : Rep ρ H B W w) (hsl : SlotsR ρ ss a.tmps) (ho : o.op = .slice T x lo hi mx) (h : effSlice P sym ss T x lo hi mx = some E) (hob : ∀ b ∈ E.ob, b = true) : Gives P ρ H B W w (execOp a.eval o) E := by
  unfold effSlice at h
  split at h <;> try contradiction
  split at h <;> try contradiction
  · rename_i n e hT
    split at h <;> try contradiction
    rename_i k p d o1 hh ex he h1
    split at h <;> try contradiction
    rename_i o2 l h2
    split at h <;> try contradiction
    rename_i hnl
    simp at h; subst h
    have hx := evS_RV hsl x
    rw [ex] at hx
    simp only [RV, RV1, RC] at hx
    obtain ⟨b, hb, e2⟩ := hx
    simp at e2
    have hrun := sliceBounds_run (P := P) (w := w) (isSlice := false) hsl h1 h2 (fun b hb => hob b (by simp [hb])) (fun b hb => hob b (by simp [hb]))
    have hnl : n ≠ l := by rintro rfl; simp at hnl
    refine Gives.pure (x := .slice (some ⟨b, off p + l * P.cellsOf e, none⟩) (hh - l) (n - l)) hr ?_ ?_
    · simp [execOp, ho, e2, Instr.sliceAt, run_underlying' hT, Instr.sureAddr, hrun, run_sizeOf' he, hnl, addr_add]
    · simp only [RV, RV1, RC]
      exact ⟨b, hb, by simp [off_append, off]⟩
  · rename_i hT
    split at h <;> try contradiction
    rename_i s es
    split at h <;> try contradiction
    rename_i o1 hh h1
    split at h <;> try contradiction
    rename_i o2 l h2
    simp at h; subst h
    have hx := evT_RV (P := P) hsl T x
    rw [es] at hx
    have hrun := sliceBounds_run (P := P) (w := w) (isSlice := false) hsl h1 h2 (fun b hb => hob b (by simp [hb])) (fun b hb => hob b (by simp [hb]))
    refine Gives.pure (x := .string (s.extract l hh)) hr ?_ (by simp [RV, RV1, RC])
    simp [execOp, ho, RV_str hx, Instr.sliceAt, Instr.slice, run_underlying' hT, hrun]

/-! ### Composites -/
def setParts : AV → List (Path × Nat × AV) → Option AV
  | t, [] => some t
  | t, (p, n, v) :: r => match Nat.beq v.size n && (v.isAgg || v.one) with
    | true => match t.set false p v with
      | some (_, t') => setParts t' r
      | none => none
    | false => none

theorem fold_set (o : Nat) : ∀ (cc : List Value) (j : Nat) (c1 c2 c3 : List Value), c1.length = o + j → c2.length = cc.length →
    (cc.zipIdx j).foldl (fun (cs : Array Value) (x : Value × Nat) => cs.setIfInBounds (o + x.2) x.1) (c1 ++ c2 ++ c3).toArray = (c1 ++ cc ++ c3).toArray
  | [], j, c1, c2, c3, _, h2 => by
    have : c2 = [] := by cases c2 <;> simp_all
    simp [this]
  | c :: cc, j, c1, c2, c3, h1, h2 => by
    cases c2 with
    | nil => simp at h2
    | cons d c2 =>
      simp only [List.zipIdx_cons, List.foldl_cons]
      have : (c1 ++ d :: c2 ++ c3).toArray.setIfInBounds (o + j) c = ((c1 ++ [c]) ++ c2 ++ c3).toArray := by
        rw [← h1]; simp [List.set_append_right]
      rw [this, fold_set o cc (j + 1) (c1 ++ [c]) c2 c3 (by simp; omega) (by simpa using h2)]
      simp

theorem chk_false {c : Bool} {ob : List Bool} (h : chk false c = some ob) : ob = [] := by
  unfold chk at h
  cases c <;> simp at h
  exact h

theorem map_chk_false {c : Bool} {f : List Bool → AV} {ob : List Bool} {t : AV} (h : ((chk false c).map fun o => (o, f o)) = some (ob, t)) : ob = [] := by
  cases hc : chk false c with
  | none => simp [hc] at h
  | some q => simp [hc] at h; rw [← h.1]; exact chk_false hc

theorem set_false_ob : ∀ (p : Path) (t v : AV) (ob : List Bool) (t' : AV), t.set false p v = some (ob, t') → ob = []
  | [], t, v, ob, t', h => by
    unfold AV.set at h
    split at h <;> simp at h
    exact h.1
  | (b, i, s) :: p, t, v, ob, t', h => by
    cases t <;> unfold AV.set at h <;> (try simp only at h) <;> try contradiction
    case u x =>
      split at h <;> try contradiction
      split at h <;> try contradiction
      exact map_chk_false h
    case ints k n l =>
      split at h <;> try contradiction
      split at h <;> try contradiction
      exact map_chk_false h
    case agg l =>
      split at h <;> try contradiction
      rename_i d _
      split at h <;> try contradiction
      cases hd : d.set false p v with
      | none => simp [hd] at h
      | some r => simp [hd] at h; rw [← h.1]; exact set_false_ob p d v r.1 r.2 hd

/-- What 'parts' says of each part: its path, its number of cells, its value. -/
theorem fill_run (place : Nat → Option (Nat × Nat)) : ∀ (l : List (Nat × Path × Nat × AV × Value)) (t t' : AV) (cs : List Value), RC ρ t cs →
    (∀ q ∈ l, place q.1 = some (off q.2.1, q.2.2.1) ∧ RV ρ q.2.2.2.1 q.2.2.2.2) → setParts t (l.map fun q => (q.2.1, q.2.2.1, q.2.2.2.1)) = some t' →
    ∃ cs' : List Value, Instr.fill place cs.toArray (l.map fun q => (q.1, q.2.2.2.2)) = some cs'.toArray ∧ RC ρ t' cs'
  | [], t, t', cs, h, _, hs => by simp [setParts] at hs; subst hs; exact ⟨cs, by simp [Instr.fill], h⟩
  | (i, p, n, v, x) :: l, t, t', cs, h, hl, hs => by
    simp only [List.map_cons, setParts] at hs
    split at hs <;> try contradiction
    rename_i hc
    simp only [Bool.and_eq_true] at hc
    split at hs <;> try contradiction
    rename_i ob t1 hset
    obtain ⟨hp, hv⟩ := hl (i, p, n, v, x) (by simp)
    simp only at hp hv
    have hcc := hv.cells hc.2
    obtain ⟨c1, c2, c3, rfl, hl1, hl2, hr⟩ := AV.set_sound false p t cs v _ ob t1 h hcc hset (by rw [set_false_ob p t v ob t1 hset]; simp)
    obtain ⟨cs', h1, h2⟩ := fill_run place l t1 t' _ hr (fun q hq => hl q (by simp [hq])) hs
    refine ⟨cs', ?_, h2⟩
    have hsz := RC.length _ _ hcc
    have hn := Nat.eq_of_beq_eq_true hc.1
    simp only [List.map_cons, Instr.fill, hp]
    have hxs : x.cells.size = n := by rw [← hn, ← hsz]; simp
    rw [if_neg (by simp [hxs]; rw [← hl1]; have : x.cells.toList.length = n := by simpa using hxs
                   omega)]
    have hf := fold_set (off p) x.cells.toList 0 c1 c2 c3 (by omega) hl2
    rw [← h1]
    congr 1
    rw [← hf]
    rw [← Array.foldl_toList]
    simp

def structParts (P : Program) (ss : List AV) (fs : List Field) : List (Nat × Operand) → Option (List (Path × Nat × AV))
  | [] => some []
  | (i, x) :: r => match fs[i]? with
    | some f => (structParts P ss fs r).map fun q => ([(f.offset, i, 0)], P.cellsOf f.type, evT P ss f.type x) :: q
    | none => none

def arrayParts (P : Program) (ss : List AV) (e : Nat) : List (Nat × Operand) → List (Path × Nat × AV)
  | [] => []
  | (i, x) :: r => ([(0, i, P.cellsOf e)], P.cellsOf e, evT P ss e x) :: arrayParts P ss e r

def zeroAV (P : Program) (T : Nat) : Option AV :=
  match P.info? T with
  | some i => match i.zero with
    | some z => shapeV P T z
    | none => none
  | none => none

def effBuild (P : Program) (ss : List AV) (T : Nat) (parts : List (Nat × Operand)) : Option Eff :=
  match zeroAV P T, P.underlying T with
  | some z, some (.struct fs) => match fs.toList.all fun f => (P.info? f.type).isSome with
    | true => (structParts P ss fs.toList parts).bind fun q => (setParts z q).bind fun v => match v.isAgg with
      | true => some { v := v }
      | false => none
    | false => none
  | some z, some (.array _ e) => match P.underlying e with
    | some _ => (setParts z (arrayParts P ss e parts)).bind fun v => match v.isAgg with
      | true => some { v := v }
      | false => none
    | none => none
  | _, _ => none

theorem zeroAV_sound {T : Nat} {z : AV} (h : zeroAV P T = some z) : ∃ v, (zeroValue T).run P w = .ok v w ∧ RC ρ z v.cells.toList := by
  unfold zeroAV at h
  split at h <;> try contradiction
  rename_i i hi
  split at h <;> try contradiction
  rename_i v hz
  exact ⟨v, by simp [zeroValue, typeInfo, hi, hz], (shapeV_sound ρ h).1⟩

theorem mapM_sizes (w : World) : ∀ (l : List Field), (∀ f ∈ l, (P.info? f.type).isSome = true) → (l.mapM fun f => (do Pure.pure (f.offset, ← sizeOf f.type) : Sem (Nat × Nat))).run P w = .ok (l.map fun f => (f.offset, P.cellsOf f.type)) w
  | [], _ => by simp
  | f :: l, h => by
    obtain ⟨i, hi⟩ := Option.isSome_iff_exists.1 (h f (by simp))
    have ih := mapM_sizes w l (fun g hg => h g (by simp [hg]))
    have h1 : (do Pure.pure (f.offset, ← sizeOf f.type) : Sem (Nat × Nat)).run P w = .ok (f.offset, P.cellsOf f.type) w := by
      simp [sizeOf, typeInfo, hi, Program.cellsOf]
    rw [List.mapM_cons, Sem.run_bind, h1, Result.andThen_ok, Sem.run_bind, ih]
    rfl

theorem structParts_list (hsl : SlotsR ρ ss a.tmps) (fs : List Field) : ∀ (parts : List (Nat × Operand)) (q : List (Path × Nat × AV)), structParts P ss fs parts = some q →
    ∃ l : List (Nat × Path × Nat × AV × Value), (l.map fun q => (q.2.1, q.2.2.1, q.2.2.2.1)) = q ∧ (l.map fun q => (q.1, q.2.2.2.2)) = (parts.map fun p => (p.1, a.eval p.2)) ∧
      ∀ q ∈ l, ((fs.map fun f => (f.offset, P.cellsOf f.type))[q.1]? = some (off q.2.1, q.2.2.1)) ∧ RV ρ q.2.2.2.1 q.2.2.2.2
  | [], q, h => by simp [structParts] at h; subst h; exact ⟨[], rfl, rfl, by simp⟩
  | (i, x) :: r, q, h => by
    simp only [structParts] at h
    split at h <;> try contradiction
    rename_i f hf
    cases hr : structParts P ss fs r with
    | none => simp [hr] at h
    | some q' =>
      simp [hr] at h; subst h
      obtain ⟨l, h1, h2, h3⟩ := structParts_list hsl fs r q' hr
      refine ⟨(i, [(f.offset, i, 0)], P.cellsOf f.type, evT P ss f.type x, a.eval x) :: l, by simp [h1], by simp [h2], ?_⟩
      intro y hy
      simp only [List.mem_cons] at hy
      rcases hy with rfl | hy
      · exact ⟨by simp [hf, off], evT_RV hsl _ _⟩
      · exact h3 y hy

theorem arrayParts_list (hsl : SlotsR ρ ss a.tmps) (e : Nat) : ∀ (parts : List (Nat × Operand)),
    ∃ l : List (Nat × Path × Nat × AV × Value), (l.map fun q => (q.2.1, q.2.2.1, q.2.2.2.1)) = arrayParts P ss e parts ∧ (l.map fun q => (q.1, q.2.2.2.2)) = (parts.map fun p => (p.1, a.eval p.2)) ∧
      ∀ q ∈ l, ((fun i => some (i * P.cellsOf e, P.cellsOf e)) q.1 = some (off q.2.1, q.2.2.1)) ∧ RV ρ q.2.2.2.1 q.2.2.2.2
  | [] => ⟨[], rfl, rfl, by simp⟩
  | (i, x) :: r => by
    obtain ⟨l, h1, h2, h3⟩ := arrayParts_list hsl e r
    refine ⟨(i, [(0, i, P.cellsOf e)], P.cellsOf e, evT P ss e x, a.eval x) :: l, by simp [arrayParts, h1], by simp [h2], ?_⟩
    intro y hy
    simp only [List.mem_cons] at hy
    rcases hy with rfl | hy
    · exact ⟨by simp [off], evT_RV hsl _ _⟩
    · exact h3 y hy

theorem effBuild_sound {T : Nat} {parts : Array (Nat × Operand)} (hr : Rep ρ H B W w) (hsl : SlotsR ρ ss a.tmps) (ho : o.op = .build T parts) (h : effBuild P ss T parts.toList = some E) : Gives P ρ H B W w (execOp a.eval o) E := by
  unfold effBuild at h
  split at h <;> try contradiction
  · rename_i z fs hz hT
    obtain ⟨zv, hzr, hzc⟩ := zeroAV_sound (ρ := ρ) (w := w) hz
    split at h <;> try contradiction
    rename_i hall
    cases hq : structParts P ss fs.toList parts.toList with
    | none => simp [hq] at h
    | some q =>
      simp only [hq, Option.bind_some] at h
      cases hs : setParts z q with
      | none => simp [hs] at h
      | some v =>
        simp only [hs, Option.bind_some] at h
        split at h <;> try contradiction
        rename_i hv
        simp at h; subst h
        obtain ⟨l, h1, h2, h3⟩ := structParts_list (a := a) hsl fs.toList parts.toList q hq
        obtain ⟨cs', hf, hrc⟩ := fill_run (fun i => (fs.toList.map fun f => (f.offset, P.cellsOf f.type))[i]?) l z v _ hzc h3 (by rw [h1]; exact hs)
        rw [h2] at hf
        refine Gives.pure (x := .agg cs'.toArray) hr ?_ (RV.of_cells hrc hv)
        have hm := mapM_sizes (P := P) w fs.toList (fun f hf => List.all_eq_true.1 hall f hf)
        simp only [execOp, ho, Instr.build, Sem.run_bind, hzr, Result.andThen_ok, run_underlying' hT]
        rw [Array.mapM_eq_mapM_toList]
        simp only [Sem.run_map, hm, Result.andThen_ok]
        simp only [List.getElem?_toArray]
        simp at hf
        simp [hf]
  · rename_i z n e hz hT
    obtain ⟨zv, hzr, hzc⟩ := zeroAV_sound (ρ := ρ) (w := w) hz
    split at h <;> try contradiction
    rename_i d he
    cases hs : setParts z (arrayParts P ss e parts.toList) with
    | none => simp [hs] at h
    | some v =>
      simp only [hs, Option.bind_some] at h
      split at h <;> try contradiction
      rename_i hv
      simp at h; subst h
      obtain ⟨l, h1, h2, h3⟩ := arrayParts_list (P := P) (a := a) hsl e parts.toList
      obtain ⟨cs', hf, hrc⟩ := fill_run (fun i => some (i * P.cellsOf e, P.cellsOf e)) l z v _ hzc h3 (by rw [h1]; exact hs)
      rw [h2] at hf
      refine Gives.pure (x := .agg cs'.toArray) hr ?_ (RV.of_cells hrc hv)
      simp at hf
      simp [execOp, ho, Instr.build, hzr, run_underlying' hT, run_sizeOf' he, hf]
end
end Go.Proofs.Ytakmgioeldbkcaa
