/- Texts of this claim, one behind the other. -/
import Derived.WalkKit
import Derived.Laws.CopyRow
import Derived.Laws.Cells
import Derived.ChangeKeysEq
import Derived.Laws.StructEq

/- The values of a symbolic run: what they stand for, and how a part of one is read and written. -/
namespace Go.Proofs.Ytglcjmnkhmdlhaa
open Go Go.RowKit

/-- A value of the symbolic run. 'u': a number of 256 bits, as four parts. 'ints': a row of integers of one kind. 'ptr k p': the place 'p' in the block that is called 'k'. 'any': nothing is known. -/
inductive AV where
  | any
  | undef
  | bool (b : Bool)
  | int (k : IntKind) (n : Int)
  | str (s : ByteArray)
  | u (x : BitVec 256)
  | ints (k : IntKind) (n : Nat) (l : List Int)
  | agg (l : List AV)
  | tup (l : List AV)
  | ptr (k : Nat) (p : List (Nat × Nat × Nat))
  | nilp
  | sl (k : Nat) (p : List (Nat × Nat × Nat)) (len cap : Nat)
  | nilsl
  | fn (f : Nat) (cap : List AV)
  | nilfn
  | raw (v : Value)

abbrev Env := Nat → Option Nat
abbrev Path := List (Nat × Nat × Nat)

def off : Path → Nat
  | [] => 0
  | (b, i, s) :: p => b + i * s + off p

def limb (x : BitVec 256) (i : Nat) : Int := ((x.toNat / 2 ^ (64 * i) % 2 ^ 64 : Nat) : Int)
def limbs (x : BitVec 256) : List Value := [.int .u64 (limb x 0), .int .u64 (limb x 1), .int .u64 (limb x 2), .int .u64 (limb x 3)]

mutual
def AV.size : AV → Nat
  | .agg l => AV.sizeL l
  | .u _ => 4
  | .ints _ n _ => n
  | _ => 1
def AV.sizeL : List AV → Nat
  | [] => 0
  | v :: l => v.size + AV.sizeL l
end

def AV.isAgg : AV → Bool
  | .agg _ | .u _ | .ints .. => true
  | _ => false

/-- One cell that can be stored. -/
def AV.one : AV → Bool
  | .agg _ | .u _ | .ints .. | .tup _ | .undef | .any => false
  | _ => true

mutual
/-- 'v', laid out in cells. -/
def RC (ρ : Env) : AV → List Value → Prop
  | .agg l, cs => RCs ρ l cs
  | .u y, cs => cs = limbs y
  | .ints k n l, cs => l.length = n ∧ cs = l.map (Value.int k)
  | .bool b, cs => cs = [.bool b]
  | .int k n, cs => cs = [.int k n]
  | .str s, cs => cs = [.string s]
  | .ptr k p, cs => ∃ b, ρ k = some b ∧ cs = [.pointer (some ⟨b, off p, none⟩)]
  | .nilp, cs => cs = [.pointer none]
  | .sl k p len cap, cs => ∃ b, ρ k = some b ∧ cs = [.slice (some ⟨b, off p, none⟩) len cap]
  | .nilsl, cs => cs = [.slice none 0 0]
  | .fn f cap, cs => ∃ xs, RCs ρ cap xs ∧ cs = [.func (.func f) #[] xs.toArray]
  | .nilfn, cs => cs = [.nilFunc]
  | .raw v, cs => v.oneCell' = true ∧ cs = [v]
  | .any, cs => ∃ x : Value, x.oneCell' = true ∧ cs = [x]
  | .undef, _ => False
  | .tup _, _ => False
def RCs (ρ : Env) : List AV → List Value → Prop
  | [], cs => cs = []
  | v :: l, cs => ∃ c1 c2, RC ρ v c1 ∧ RCs ρ l c2 ∧ cs = c1 ++ c2
end

/-- 'v' is the value 'x' of a slot (no tuple). -/
def RV1 (ρ : Env) (v : AV) (x : Value) : Prop :=
  match v with
  | .any => True
  | .undef => x = undef
  | .agg l => ∃ cs, RCs ρ l cs ∧ x = .agg cs.toArray
  | .u y => x = .agg (limbs y).toArray
  | .ints k n l => l.length = n ∧ x = .agg (l.map (Value.int k)).toArray
  | .tup _ => False
  | v => RC ρ v [x]

def RV1s (ρ : Env) : List AV → List Value → Prop
  | [], xs => xs = []
  | v :: l, xs => ∃ x ys, RV1 ρ v x ∧ RV1s ρ l ys ∧ xs = x :: ys

def RV (ρ : Env) (v : AV) (x : Value) : Prop :=
  match v with
  | .tup l => ∃ xs, RV1s ρ l xs ∧ x = .tuple xs.toArray
  | v => RV1 ρ v x

def Env.le (ρ ρ' : Env) : Prop := ∀ k b, ρ k = some b → ρ' k = some b
theorem Env.le.refl (ρ : Env) : Env.le ρ ρ := fun _ _ h => h
theorem Env.le.trans {a b c : Env} (h : Env.le a b) (g : Env.le b c) : Env.le a c := fun k x e => g k x (h k x e)

mutual
theorem RC.mono {ρ ρ' : Env} (h : Env.le ρ ρ') : ∀ (v : AV) (cs : List Value), RC ρ v cs → RC ρ' v cs
  | .agg l, cs, hr => by simp only [RC] at *; exact RCs.mono h l cs hr
  | .u y, cs, hr => by simpa only [RC] using hr
  | .ints k n l, cs, hr => by simpa only [RC] using hr
  | .bool b, cs, hr => by simpa only [RC] using hr
  | .int k n, cs, hr => by simpa only [RC] using hr
  | .str s, cs, hr => by simpa only [RC] using hr
  | .ptr k p, cs, hr => by simp only [RC] at *; obtain ⟨b, hb, e⟩ := hr; exact ⟨b, h k b hb, e⟩
  | .nilp, cs, hr => by simpa only [RC] using hr
  | .sl k p len cap, cs, hr => by simp only [RC] at *; obtain ⟨b, hb, e⟩ := hr; exact ⟨b, h k b hb, e⟩
  | .nilsl, cs, hr => by simpa only [RC] using hr
  | .fn f cap, cs, hr => by simp only [RC] at *; obtain ⟨xs, hx, e⟩ := hr; exact ⟨xs, RCs.mono h cap xs hx, e⟩
  | .nilfn, cs, hr => by simpa only [RC] using hr
  | .raw v, cs, hr => by simpa only [RC] using hr
  | .any, cs, hr => by simpa only [RC] using hr
  | .undef, cs, hr => by simp only [RC] at hr
  | .tup l, cs, hr => by simp only [RC] at hr
theorem RCs.mono {ρ ρ' : Env} (h : Env.le ρ ρ') : ∀ (l : List AV) (cs : List Value), RCs ρ l cs → RCs ρ' l cs
  | [], cs, hr => by simpa only [RCs] using hr
  | v :: l, cs, hr => by
    simp only [RCs] at *
    obtain ⟨c1, c2, h1, h2, e⟩ := hr
    exact ⟨c1, c2, RC.mono h v c1 h1, RCs.mono h l c2 h2, e⟩
end

theorem RV1.mono {ρ ρ' : Env} (h : Env.le ρ ρ') {v : AV} {x : Value} (hr : RV1 ρ v x) : RV1 ρ' v x := by
  cases v <;> simp only [RV1] at * <;> first | exact hr | exact RC.mono h _ _ hr | (obtain ⟨cs, h1, e⟩ := hr; exact ⟨cs, RCs.mono h _ _ h1, e⟩)

theorem RV1s.mono {ρ ρ' : Env} (h : Env.le ρ ρ') : ∀ (l : List AV) (xs : List Value), RV1s ρ l xs → RV1s ρ' l xs
  | [], xs, hr => by simpa only [RV1s] using hr
  | v :: l, xs, hr => by
    simp only [RV1s] at *
    obtain ⟨x, ys, h1, h2, e⟩ := hr
    exact ⟨x, ys, h1.mono h, RV1s.mono h l ys h2, e⟩

theorem RV.mono {ρ ρ' : Env} (h : Env.le ρ ρ') {v : AV} {x : Value} (hr : RV ρ v x) : RV ρ' v x := by
  cases v <;> simp only [RV] at * <;> first | exact hr.mono h | (obtain ⟨xs, h1, e⟩ := hr; exact ⟨xs, RV1s.mono h _ _ h1, e⟩)

theorem Value.cells_size (v : Value) (h : v.oneCell' = true) : v.cells = #[v] := by cases v <;> first | rfl | simp [Value.oneCell'] at h

mutual
theorem RC.length {ρ : Env} : ∀ (v : AV) (cs : List Value), RC ρ v cs → cs.length = v.size
  | .agg l, cs, hr => by simp only [RC] at hr; simp only [AV.size]; exact RCs.length l cs hr
  | .u y, cs, hr => by simp only [RC] at hr; subst hr; rfl
  | .ints k n l, cs, hr => by simp only [RC] at hr; obtain ⟨h, rfl⟩ := hr; simp [AV.size, h]
  | .bool b, cs, hr => by simp only [RC] at hr; subst hr; rfl
  | .int k n, cs, hr => by simp only [RC] at hr; subst hr; rfl
  | .str s, cs, hr => by simp only [RC] at hr; subst hr; rfl
  | .ptr k p, cs, hr => by simp only [RC] at hr; obtain ⟨b, hb, rfl⟩ := hr; rfl
  | .nilp, cs, hr => by simp only [RC] at hr; subst hr; rfl
  | .sl k p len cap, cs, hr => by simp only [RC] at hr; obtain ⟨b, hb, rfl⟩ := hr; rfl
  | .nilsl, cs, hr => by simp only [RC] at hr; subst hr; rfl
  | .fn f cap, cs, hr => by simp only [RC] at hr; obtain ⟨xs, hx, rfl⟩ := hr; rfl
  | .nilfn, cs, hr => by simp only [RC] at hr; subst hr; rfl
  | .raw v, cs, hr => by simp only [RC] at hr; obtain ⟨_, rfl⟩ := hr; rfl
  | .any, cs, hr => by simp only [RC] at hr; obtain ⟨x, _, rfl⟩ := hr; rfl
  | .undef, cs, hr => by simp only [RC] at hr
  | .tup l, cs, hr => by simp only [RC] at hr
theorem RCs.length {ρ : Env} : ∀ (l : List AV) (cs : List Value), RCs ρ l cs → cs.length = AV.sizeL l
  | [], cs, hr => by simp only [RCs] at hr; subst hr; rfl
  | v :: l, cs, hr => by
    simp only [RCs] at hr
    obtain ⟨c1, c2, h1, h2, rfl⟩ := hr
    simp only [List.length_append, AV.sizeL]
    rw [RC.length v c1 h1, RCs.length l c2 h2]
end

/-- A value that may be laid into memory. -/
theorem RV.cells {ρ : Env} {v : AV} {x : Value} (h : RV ρ v x) (hc : (v.isAgg || v.one) = true) : RC ρ v x.cells.toList := by
  cases v <;> simp only [AV.isAgg, AV.one] at hc <;> try (exact absurd hc (by decide))
  all_goals simp only [RV, RV1, RC] at h ⊢
  case u y => subst h; simp [Value.cells]
  case ints k n l => obtain ⟨h1, rfl⟩ := h; exact ⟨h1, by simp [Value.cells]⟩
  case agg l => obtain ⟨cs, h1, rfl⟩ := h; simpa [Value.cells] using h1
  case ptr k p => obtain ⟨b, hb, e⟩ := h; exact ⟨b, hb, by simp at e; subst e; rfl⟩
  case sl k p len cap => obtain ⟨b, hb, e⟩ := h; exact ⟨b, hb, by simp at e; subst e; rfl⟩
  case fn f cap => obtain ⟨xs, hx, e⟩ := h; exact ⟨xs, hx, by simp at e; subst e; rfl⟩
  case raw v => obtain ⟨h1, e⟩ := h; simp at e; subst e; exact ⟨h1, by rw [Value.cells_size _ h1]⟩
  all_goals (simp at h; subst h; rfl)

theorem RV.of_cells {ρ : Env} {v : AV} {cs : List Value} (h : RC ρ v cs) (ha : v.isAgg = true) : RV ρ v (.agg cs.toArray) := by
  cases v <;> simp only [AV.isAgg] at ha <;> try (exact absurd ha (by decide))
  all_goals simp only [RV, RV1, RC] at h ⊢
  case u y => subst h; rfl
  case ints k n l => obtain ⟨h1, rfl⟩ := h; exact ⟨h1, rfl⟩
  case agg l => exact ⟨cs, h, rfl⟩

theorem RV.of_cell {ρ : Env} {v : AV} {cs : List Value} (h : RC ρ v cs) (ha : v.one = true) : ∃ x, cs = [x] ∧ RV ρ v x ∧ x.oneCell' = true := by
  cases v <;> simp only [AV.one] at ha <;> try (exact absurd ha (by decide))
  all_goals simp only [RV, RV1, RC] at h ⊢
  case ptr k p => obtain ⟨b, hb, e⟩ := h; exact ⟨_, e, ⟨b, hb, rfl⟩, rfl⟩
  case sl k p len cap => obtain ⟨b, hb, e⟩ := h; exact ⟨_, e, ⟨b, hb, rfl⟩, rfl⟩
  case fn f cap => obtain ⟨xs, hx, e⟩ := h; exact ⟨_, e, ⟨xs, hx, rfl⟩, rfl⟩
  case raw v => obtain ⟨h1, e⟩ := h; exact ⟨_, e, ⟨h1, rfl⟩, h1⟩
  all_goals (subst h; exact ⟨_, rfl, rfl, rfl⟩)

/-! ### A part of a value -/

/-- A test: where 'sym' it is noted down, else it must come out by itself. -/
def chk (sym : Bool) (c : Bool) : Option (List Bool) :=
  match sym with
  | true => some [c]
  | false => match c with
    | true => some []
    | false => none

theorem chk_sound {sym c : Bool} {ob : List Bool} (h : chk sym c = some ob) (hob : ∀ b ∈ ob, b = true) : c = true := by
  unfold chk at h
  cases sym <;> cases c <;> simp at h
  · rfl
  · subst h; simp at hob
  · rfl

def isNil {α : Type} : List α → Bool
  | [] => true
  | _ => false

/-- The part of 'v' at a path. -/
def AV.get (sym : Bool) : AV → Path → Option (List Bool × AV)
  | v, [] => some ([], v)
  | .agg l, (b, i, s) :: p => match l[i]? with
    | some c => match Nat.beq (b + i * s) (AV.sizeL (l.take i)) with
      | true => c.get sym p
      | false => none
    | none => none
  | .u x, (b, i, s) :: p => match isNil p && Nat.beq b 0 && Nat.beq s 1 with
    | true => (chk sym (Nat.ble (i + 1) 4)).map fun ob => (ob, .int .u64 (limb x i))
    | false => none
  | .ints k n l, (b, i, s) :: p => match isNil p && Nat.beq b 0 && Nat.beq s 1 with
    | true => (chk sym (Nat.ble (i + 1) n)).map fun ob => (ob, .int k (l.getD i 0))
    | false => match isNil p && Nat.beq s 0 with
      | true => (chk sym (Nat.ble (b + i) n)).map fun ob => (ob, .ints k i ((l.drop b).take i))
      | false => none
  | _, _ :: _ => none
termination_by structural _ p => p

def kindEq : IntKind → IntKind → Bool
  | .i8, .i8 | .i16, .i16 | .i32, .i32 | .i64, .i64 | .u8, .u8 | .u16, .u16 | .u32, .u32 | .u64, .u64 => true
  | _, _ => false
theorem kindEq_eq {a b : IntKind} (h : kindEq a b = true) : a = b := by cases a <;> cases b <;> first | rfl | simp [kindEq] at h
theorem kindEq_self (a : IntKind) : kindEq a a = true := by cases a <;> rfl

def AV.asInt (k : IntKind) : AV → Option Int
  | .int k' n => match kindEq k k' with
    | true => some n
    | false => none
  | _ => none
theorem AV.asInt_eq {k : IntKind} {c : AV} {m : Int} (h : c.asInt k = some m) : c = .int k m := by
  cases c <;> simp only [AV.asInt] at h <;> try contradiction
  split at h
  · rename_i hk; simp at h; rw [kindEq_eq hk, h]
  · contradiction

/-- 'v' with its part at a path turned into 'c'. -/
def AV.set (sym : Bool) : AV → Path → AV → Option (List Bool × AV)
  | v, [], c => match Nat.beq v.size c.size && (c.isAgg || c.one) with
    | true => some ([], c)
    | false => none
  | .agg l, (b, i, s) :: p, c => match l[i]? with
    | some d => match Nat.beq (b + i * s) (AV.sizeL (l.take i)) with
      | true => (d.set sym p c).map fun r => (r.1, .agg (l.set i r.2))
      | false => none
    | none => none
  | .u x, (b, i, s) :: p, c => match c.asInt .u64 with
    | some m => match isNil p && Nat.beq b 0 && Nat.beq s 1 with
      | true => (chk sym (Nat.ble (i + 1) 4)).map fun ob => (ob, .ints .u64 4 ([limb x 0, limb x 1, limb x 2, limb x 3].set i m))
      | false => none
    | none => none
  | .ints k n l, (b, i, s) :: p, c => match c.asInt k with
    | some m => match isNil p && Nat.beq b 0 && Nat.beq s 1 with
      | true => (chk sym (Nat.ble (i + 1) n)).map fun ob => (ob, .ints k n (l.set i m))
      | false => none
    | none => none
  | _, _ :: _, _ => none
termination_by structural _ p => p

theorem ints_set {ρ : Env} {k : IntKind} {n i : Nat} {l : List Int} {m : Int} {cs : List Value} (h : RC ρ (.ints k n l) cs) (hi : i < n) :
    ∃ c1 c2 c3, cs = c1 ++ c2 ++ c3 ∧ c1.length = off [(0, i, 1)] ∧ c2.length = 1 ∧ RC ρ (.ints k n (l.set i m)) (c1 ++ [.int k m] ++ c3) := by
  simp only [RC] at h
  obtain ⟨hl, rfl⟩ := h
  have hil : i < l.length := by omega
  refine ⟨(l.take i).map (Value.int k), [.int k (l.getD i 0)], (l.drop (i + 1)).map (Value.int k), ?_, by simp [off]; omega, rfl, ?_⟩
  · have hl2 : l = l.take i ++ [l.getD i 0] ++ l.drop (i + 1) := by simp [List.getD, List.getElem?_eq_getElem hil]
    conv => lhs; rw [hl2]
    simp
  · simp only [RC]
    refine ⟨by simpa using hl, ?_⟩
    rw [List.set_eq_take_append_cons_drop, if_pos hil]
    simp

theorem RC.u_ints {ρ : Env} {x : BitVec 256} {cs : List Value} (h : RC ρ (.u x) cs) : RC ρ (.ints .u64 4 [limb x 0, limb x 1, limb x 2, limb x 3]) cs := by
  simp only [RC] at h ⊢
  subst h
  exact ⟨rfl, rfl⟩

theorem RCs.split {ρ : Env} : ∀ (l : List AV) (cs : List Value) (i : Nat) (c : AV), RCs ρ l cs → l[i]? = some c →
    ∃ c1 c2 c3, cs = c1 ++ c2 ++ c3 ∧ c1.length = AV.sizeL (l.take i) ∧ RC ρ c c2 ∧ ∀ d c2', RC ρ d c2' → RCs ρ (l.set i d) (c1 ++ c2' ++ c3)
  | [], cs, i, c, _, hi => by simp at hi
  | v :: l, cs, 0, c, h, hi => by
    simp only [RCs] at h
    obtain ⟨a1, a2, h1, h2, rfl⟩ := h
    simp at hi; subst hi
    refine ⟨[], a1, a2, by simp, rfl, h1, fun d c2' hd => ?_⟩
    simp only [List.set_cons_zero, RCs]
    exact ⟨c2', a2, hd, h2, by simp⟩
  | v :: l, cs, i + 1, c, h, hi => by
    simp only [RCs] at h
    obtain ⟨a1, a2, h1, h2, rfl⟩ := h
    obtain ⟨c1, c2, c3, rfl, hl, hc, hs⟩ := RCs.split l a2 i c h2 (by simpa using hi)
    refine ⟨a1 ++ c1, c2, c3, by simp, ?_, hc, fun d c2' hd => ?_⟩
    · simp only [List.length_append, List.take_succ_cons, AV.sizeL, hl, RC.length v a1 h1]
    · simp only [List.set_cons_succ, RCs]
      exact ⟨a1, c1 ++ c2' ++ c3, h1, hs d c2' hd, by simp⟩

theorem isNil_nil {α : Type} {l : List α} (h : isNil l = true) : l = [] := by cases l <;> first | rfl | simp [isNil] at h

theorem AV.get_sound {ρ : Env} (sym : Bool) : ∀ (p : Path) (v : AV) (cs : List Value) (ob : List Bool) (c : AV), RC ρ v cs → v.get sym p = some (ob, c) → (∀ b ∈ ob, b = true) →
    ∃ c1 c2 c3, cs = c1 ++ c2 ++ c3 ∧ c1.length = off p ∧ RC ρ c c2
  | [], v, cs, ob, c, h, hg, _ => by
    unfold AV.get at hg; simp at hg; obtain ⟨rfl, rfl⟩ := hg
    exact ⟨[], cs, [], by simp, rfl, h⟩
  | (b, i, s) :: p, v, cs, ob, c, h, hg, hob => by
    cases v <;> unfold AV.get at hg <;> (try simp only at hg) <;> try contradiction
    case agg l =>
      split at hg
      · rename_i d hd
        split at hg
        · rename_i hb
          simp only [RC] at h
          obtain ⟨c1, c2, c3, rfl, hl, hc, _⟩ := RCs.split l cs i d h hd
          obtain ⟨e1, e2, e3, rfl, hl2, hc2⟩ := AV.get_sound sym p d c2 ob c hc hg hob
          refine ⟨c1 ++ e1, e2, e3 ++ c3, by simp, ?_, hc2⟩
          have := Nat.eq_of_beq_eq_true hb
          simp [off, hl, hl2, this]
        · contradiction
      · contradiction
    case u x =>
      split at hg
      · rename_i hb
        simp only [Bool.and_eq_true] at hb
        obtain ⟨⟨h1, h2⟩, h3⟩ := hb
        have hp := isNil_nil h1
        have hb0 := Nat.eq_of_beq_eq_true h2
        have hs1 := Nat.eq_of_beq_eq_true h3
        subst hp hb0 hs1
        cases hk : chk sym (Nat.ble (i + 1) 4) with
        | none => simp [hk] at hg
        | some o =>
          simp [hk] at hg
          obtain ⟨rfl, rfl⟩ := hg
          have hi := Nat.le_of_ble_eq_true (chk_sound hk hob)
          simp only [RC] at h
          subst h
          have : i = 0 ∨ i = 1 ∨ i = 2 ∨ i = 3 := by omega
          rcases this with rfl | rfl | rfl | rfl
          · exact ⟨[], [.int .u64 (limb x 0)], [.int .u64 (limb x 1), .int .u64 (limb x 2), .int .u64 (limb x 3)], rfl, rfl, by simp [RC]⟩
          · exact ⟨[.int .u64 (limb x 0)], [.int .u64 (limb x 1)], [.int .u64 (limb x 2), .int .u64 (limb x 3)], rfl, rfl, by simp [RC]⟩
          · exact ⟨[.int .u64 (limb x 0), .int .u64 (limb x 1)], [.int .u64 (limb x 2)], [.int .u64 (limb x 3)], rfl, rfl, by simp [RC]⟩
          · exact ⟨[.int .u64 (limb x 0), .int .u64 (limb x 1), .int .u64 (limb x 2)], [.int .u64 (limb x 3)], [], rfl, rfl, by simp [RC]⟩
      · contradiction
    case ints k n l =>
      split at hg
      · rename_i hb
        simp only [Bool.and_eq_true] at hb
        obtain ⟨⟨h1, h2⟩, h3⟩ := hb
        have hp := isNil_nil h1
        have hb0 := Nat.eq_of_beq_eq_true h2
        have hs1 := Nat.eq_of_beq_eq_true h3
        subst hp hb0 hs1
        cases hk : chk sym (Nat.ble (i + 1) n) with
        | none => simp [hk] at hg
        | some o =>
          simp [hk] at hg
          obtain ⟨rfl, rfl⟩ := hg
          have hi := Nat.le_of_ble_eq_true (chk_sound hk hob)
          simp only [RC] at h
          obtain ⟨hl, rfl⟩ := h
          have hil : i < l.length := by omega
          refine ⟨(l.take i).map (Value.int k), [.int k (l.getD i 0)], (l.drop (i + 1)).map (Value.int k), ?_, by simp [off]; omega, by simp [RC, List.getD, List.getElem?_eq_getElem hil]⟩
          have hl2 : l = l.take i ++ [l.getD i 0] ++ l.drop (i + 1) := by
            simp [List.getD, List.getElem?_eq_getElem hil]
          conv => lhs; rw [hl2]
          simp
      · split at hg
        · rename_i hb
          simp only [Bool.and_eq_true] at hb
          obtain ⟨h1, h3⟩ := hb
          have hp := isNil_nil h1
          have hs1 := Nat.eq_of_beq_eq_true h3
          subst hp hs1
          cases hk : chk sym (Nat.ble (b + i) n) with
          | none => simp [hk] at hg
          | some o =>
            simp [hk] at hg
            obtain ⟨rfl, rfl⟩ := hg
            have hi := Nat.le_of_ble_eq_true (chk_sound hk hob)
            simp only [RC] at h
            obtain ⟨hl, rfl⟩ := h
            refine ⟨(l.take b).map (Value.int k), ((l.drop b).take i).map (Value.int k), ((l.drop b).drop i).map (Value.int k), ?_, by simp [off]; omega, ?_⟩
            · rw [← List.map_append, ← List.map_append, List.append_assoc, List.take_append_drop, List.take_append_drop]
            · simp only [RC]
              exact ⟨by simp; omega, trivial⟩
        · contradiction

theorem AV.set_sound {ρ : Env} (sym : Bool) : ∀ (p : Path) (v : AV) (cs : List Value) (c : AV) (cc : List Value) (ob : List Bool) (v' : AV), RC ρ v cs → RC ρ c cc →
    v.set sym p c = some (ob, v') → (∀ b ∈ ob, b = true) →
    ∃ c1 c2 c3, cs = c1 ++ c2 ++ c3 ∧ c1.length = off p ∧ c2.length = cc.length ∧ RC ρ v' (c1 ++ cc ++ c3)
  | [], v, cs, c, cc, ob, v', h, hc, hg, _ => by
    unfold AV.set at hg
    split at hg
    · rename_i hb
      simp at hg; obtain ⟨rfl, rfl⟩ := hg
      simp only [Bool.and_eq_true] at hb
      have := Nat.eq_of_beq_eq_true hb.1
      exact ⟨[], cs, [], by simp, rfl, by rw [RC.length _ _ h, RC.length _ _ hc, this], by simpa using hc⟩
    · contradiction
  | (b, i, s) :: p, v, cs, c, cc, ob, v', h, hc, hg, hob => by
    cases v
    case agg l =>
      unfold AV.set at hg
      (try simp only at hg)
      split at hg
      · rename_i d hd
        split at hg
        · rename_i hb
          simp only [RC] at h
          obtain ⟨c1, c2, c3, rfl, hl, hc', hset⟩ := RCs.split l cs i d h hd
          cases hs : d.set sym p c with
          | none => simp [hs] at hg
          | some r =>
            simp [hs] at hg
            obtain ⟨rfl, rfl⟩ := hg
            obtain ⟨e1, e2, e3, rfl, hl2, hl3, hr⟩ := AV.set_sound sym p d c2 c cc r.1 r.2 hc' hc hs hob
            refine ⟨c1 ++ e1, e2, e3 ++ c3, by simp, ?_, hl3, ?_⟩
            · have := Nat.eq_of_beq_eq_true hb
              simp [off, hl, hl2, this]
            · simp only [RC]
              have := hset r.2 _ hr
              simpa [List.append_assoc] using this
        · contradiction
      · contradiction
    case u x =>
      unfold AV.set at hg
      (try simp only at hg)
      split at hg
      · rename_i m hm
        have hcm := AV.asInt_eq hm
        subst hcm
        simp only [RC] at hc
        subst hc
        split at hg
        · rename_i hb
          simp only [Bool.and_eq_true] at hb
          obtain ⟨⟨h1, h2⟩, h3⟩ := hb
          have hp := isNil_nil h1
          have hb0 := Nat.eq_of_beq_eq_true h2
          have hs1 := Nat.eq_of_beq_eq_true h3
          subst hp hb0 hs1
          cases hk : chk sym (Nat.ble (i + 1) 4) with
          | none => simp [hk] at hg
          | some o =>
            simp [hk] at hg
            obtain ⟨rfl, rfl⟩ := hg
            have hi := Nat.le_of_ble_eq_true (chk_sound hk hob)
            exact ints_set h.u_ints (by omega)
        · contradiction
      · contradiction
    case ints k n l =>
      unfold AV.set at hg
      (try simp only at hg)
      split at hg
      · rename_i m hm
        have hcm := AV.asInt_eq hm
        subst hcm
        simp only [RC] at hc
        subst hc
        split at hg
        · rename_i hb
          simp only [Bool.and_eq_true] at hb
          obtain ⟨⟨h1, h2⟩, h3⟩ := hb
          have hp := isNil_nil h1
          have hb0 := Nat.eq_of_beq_eq_true h2
          have hs1 := Nat.eq_of_beq_eq_true h3
          subst hp hb0 hs1
          cases hk : chk sym (Nat.ble (i + 1) n) with
          | none => simp [hk] at hg
          | some o =>
            simp [hk] at hg
            obtain ⟨rfl, rfl⟩ := hg
            have hi := Nat.le_of_ble_eq_true (chk_sound hk hob)
            exact ints_set h (by omega)
        · contradiction
      · contradiction
    all_goals (unfold AV.set at hg; (try simp only at hg); contradiction)

end Go.Proofs.Ytglcjmnkhmdlhaa

/- The memory of a symbolic run. -/
namespace Go.Proofs.Ytglcjmnkhmdlhaa
open Go Go.RowKit

structure Blk where
  t : Nat
  v : AV
  own : Bool

abbrev Heap := List (Option Blk)

def hget : Heap → Nat → Option Blk
  | [], _ => none
  | b :: _, 0 => b
  | _ :: H, k + 1 => hget H k

def hset : Heap → Nat → Blk → Heap
  | [], 0, b => [some b]
  | [], k + 1, b => none :: hset [] k b
  | _ :: H, 0, b => some b :: H
  | x :: H, k + 1, b => x :: hset H k b
termination_by structural _ k => k

theorem hget_nil (k : Nat) : hget [] k = none := by cases k <;> rfl

theorem hget_hset : ∀ (H : Heap) (k j : Nat) (b : Blk), hget (hset H k b) j = if j = k then some b else hget H j
  | [], 0, j, b => by cases j <;> simp [hset, hget]
  | [], k + 1, j, b => by
    cases j with
    | zero => simp [hset, hget]
    | succ j => simp only [hset, hget]; rw [hget_hset [] k j b]; simp [hget_nil]
  | x :: H, 0, j, b => by cases j <;> simp [hset, hget]
  | x :: H, k + 1, j, b => by
    cases j with
    | zero => simp [hset, hget]
    | succ j => simp only [hset, hget]; rw [hget_hset H k j b]; simp
termination_by structural _ k => k

theorem hset_comm : ∀ (H : Heap) (k j : Nat) (b c : Blk), k ≠ j → hset (hset H k b) j c = hset (hset H j c) k b
  | [], 0, 0, _, _, h => absurd rfl h
  | [], 0, j + 1, b, c, _ => by simp [hset]
  | [], k + 1, 0, b, c, _ => by simp [hset]
  | [], k + 1, j + 1, b, c, h => by simp only [hset]; rw [hset_comm [] k j b c (by omega)]
  | x :: H, 0, 0, _, _, h => absurd rfl h
  | x :: H, 0, j + 1, b, c, _ => by simp [hset]
  | x :: H, k + 1, 0, b, c, _ => by simp [hset]
  | x :: H, k + 1, j + 1, b, c, h => by simp only [hset]; rw [hset_comm H k j b c (by omega)]
termination_by structural _ k => k

/-- Which blocks do not turn. -/
abbrev Fr := Nat → Prop
structure Keep (F : Fr) (w w' : World) : Prop where
  os : w'.os = w.os
  tape : w'.tape = w.tape
  output : w'.output = w.output
  size : w.heap.size ≤ w'.heap.size
  block : ∀ k, F k → w'.heap[k]? = w.heap[k]?
theorem Keep.refl (F : Fr) (w : World) : Keep F w w := ⟨rfl, rfl, rfl, Nat.le_refl _, fun _ _ => rfl⟩
theorem Keep.trans {F : Fr} {a b c : World} (h : Keep F a b) (k : Keep F b c) : Keep F a c :=
  ⟨k.os.trans h.os, k.tape.trans h.tape, k.output.trans h.output, Nat.le_trans h.size k.size, fun i hi => (k.block i hi).trans (h.block i hi)⟩
theorem Keep.mono {F F' : Fr} {w w' : World} (h : Keep F w w') (hF : ∀ k, F' k → F k) : Keep F' w w' := ⟨h.os, h.tape, h.output, h.size, fun k hk => h.block k (hF k hk)⟩
theorem Keep.drew {F : Fr} {a w : World} (h : Keep F a w) : Keep F a w.drew := ⟨h.os, h.tape, h.output, h.size, h.block⟩
theorem Keep.alloc {F : Fr} {a w : World} (h : Keep F a w) (hF : ∀ k, F k → k < w.heap.size) (o : Obj) : Keep F a (w.alloc o) :=
  h.trans ⟨rfl, rfl, rfl, by simp, fun k hk => Below.heap_alloc _ _ _ (hF k hk)⟩
theorem Keep.below {n : Nat} {w w' : World} (h : Keep (· < n) w w') : Below n w w' := ⟨h.os, h.tape, h.output, h.size, h.block⟩
theorem Keep.of {n : Nat} {w w' : World} (h : Below n w w') : Keep (· < n) w w' := ⟨h.os, h.tape, h.output, h.size, h.block⟩

/-- The memory 'H' lies in the world 'w', the block 'k' at 'ρ k'; of the world 'W' nothing in 'B' has turned. -/
structure Rep (ρ : Env) (H : Heap) (B : Fr) (W w : World) : Prop where
  below : Keep B W w
  bnd : ∀ k, B k → k < W.heap.size
  blk : ∀ k x, hget H k = some x → ∃ b cs mk, ρ k = some b ∧ w.heap[b]? = some (.cells cs.toArray x.t mk) ∧ RC ρ x.v cs ∧ (x.own = true → ¬ B b ∧ mk = (0, 0))
  inj : ∀ k k' b, ρ k = some b → ρ k' = some b → k = k'
  dom : ∀ k, hget H k = none → ρ k = none

theorem Rep.drew {ρ : Env} {H : Heap} {B : Fr} {W w : World} (h : Rep ρ H B W w) : Rep ρ H B W w.drew :=
  ⟨h.below.drew, h.bnd, h.blk, h.inj, h.dom⟩

theorem Rep.start (w : World) : Rep (fun _ => none) [] (· < w.heap.size) w w :=
  ⟨Keep.refl _ _, fun _ h => h, fun k x h => by simp [hget_nil] at h, fun k k' b h => by simp at h, fun _ _ => rfl⟩

def upd (ρ : Env) (k b : Nat) : Env := fun j => if j = k then some b else ρ j

theorem heap_lt {w : World} {b : Nat} {o : Obj} (h : w.heap[b]? = some o) : b < w.heap.size := by
  rcases Nat.lt_or_ge b w.heap.size with h' | h'
  · exact h'
  · simp [Array.getElem?_eq_none h'] at h

theorem Rep.lt {ρ : Env} {H : Heap} {B : Fr} {W w : World} (h : Rep ρ H B W w) {k b : Nat} (hk : ρ k = some b) : b < w.heap.size := by
  cases hg : hget H k with
  | none => rw [h.dom k hg] at hk; simp at hk
  | some x =>
    obtain ⟨b', cs, mk, hb, hh, _⟩ := h.blk k x hg
    rw [hk] at hb; simp at hb; subst hb
    exact heap_lt hh

theorem Rep.alloc {ρ : Env} {H : Heap} {B : Fr} {W w : World} (h : Rep ρ H B W w) {k : Nat} {T : Nat} {v : AV} {cs : List Value} (hk : hget H k = none) (hv : RC ρ v cs) :
    Env.le ρ (upd ρ k w.heap.size) ∧ Rep (upd ρ k w.heap.size) (hset H k ⟨T, v, true⟩) B W (w.alloc (.cells cs.toArray T)) := by
  have hle : Env.le ρ (upd ρ k w.heap.size) := by
    intro j b hj
    have : j ≠ k := fun e => by subst e; rw [h.dom j hk] at hj; simp at hj
    simp [upd, this, hj]
  refine ⟨hle, h.below.alloc (fun k hk => Nat.lt_of_lt_of_le (h.bnd k hk) h.below.size) _, h.bnd, ?_, ?_, ?_⟩
  · intro j x hj
    rw [hget_hset] at hj
    split at hj
    · rename_i e; subst e
      simp at hj; subst hj
      exact ⟨w.heap.size, cs, (0, 0), by simp [upd], heap_alloc_new w _, hv.mono hle, fun _ => ⟨fun hb => Nat.lt_irrefl _ (Nat.lt_of_lt_of_le (h.bnd _ hb) h.below.size), rfl⟩⟩
    · rename_i e
      obtain ⟨b, cs', mk, hb, hh, hr, ho⟩ := h.blk j x hj
      exact ⟨b, cs', mk, hle j b hb, by rw [Below.heap_alloc _ _ _ (heap_lt hh)]; exact hh, hr.mono hle, ho⟩
  · intro j j' b hj hj'
    unfold upd at hj hj'
    split at hj <;> split at hj' <;> rename_i e1 e2
    · rw [e1, e2]
    · simp at hj; subst hj; exact absurd (h.lt hj') (by simp)
    · simp at hj'; subst hj'; exact absurd (h.lt hj) (by simp)
    · exact h.inj j j' b hj hj'
  · intro j hj
    rw [hget_hset] at hj
    split at hj
    · simp at hj
    · rename_i e; simp [upd, e, h.dom j hj]

/-- A block's cells are turned. -/
theorem Rep.setRow {ρ : Env} {H : Heap} {B : Fr} {W w : World} (h : Rep ρ H B W w) {k b : Nat} {x : Blk} {v : AV} {cs : List Value} (hk : hget H k = some x) (hb : ρ k = some b) (hown : x.own = true) (hv : RC ρ v cs) :
    Rep ρ (hset H k { x with v := v }) B W (w.setRow b cs.toArray) := by
  obtain ⟨b', cs0, mk, hb', hh, _, ho⟩ := h.blk k x hk
  rw [hb] at hb'; simp at hb'; subst hb'
  obtain ⟨hB, rfl⟩ := ho hown
  have hother : ∀ j, j ≠ b → (w.setRow b cs.toArray).heap[j]? = w.heap[j]? := by
    intro j hj
    simp only [World.setRow, Array.getElem?_modify]
    rw [if_neg (fun e => hj e.symm)]
  refine ⟨h.below.trans ⟨rfl, rfl, rfl, by simp, fun j hj => hother j (fun e => hB (e ▸ hj))⟩, h.bnd, ?_, h.inj, ?_⟩
  · intro j y hj
    rw [hget_hset] at hj
    split at hj
    · rename_i e; subst e
      simp at hj; subst hj
      exact ⟨b, cs, (0, 0), hb, setRow_heap w b cs0.toArray cs.toArray x.t (0, 0) hh, hv, fun _ => ⟨hB, rfl⟩⟩
    · rename_i e
      obtain ⟨b2, cs2, mk2, hb2, hh2, hr2, ho2⟩ := h.blk j y hj
      refine ⟨b2, cs2, mk2, hb2, ?_, hr2, ho2⟩
      rw [hother b2 (fun e2 => e (h.inj j k b (e2 ▸ hb2) hb))]
      exact hh2
  · intro j hj
    rw [hget_hset] at hj
    split at hj
    · simp at hj
    · exact h.dom j hj

/-- A call that writes nothing of what was there. -/
theorem Rep.later {ρ : Env} {H : Heap} {B : Fr} {W w w' : World} (h : Rep ρ H B W w) (hb : Below w.heap.size w w') : Rep ρ H B W w' := by
  refine ⟨h.below.trans ((Keep.of hb).mono fun k hk => Nat.lt_of_lt_of_le (h.bnd k hk) h.below.size), h.bnd, ?_, h.inj, h.dom⟩
  intro k x hk
  obtain ⟨b, cs, mk, h1, h2, h3, h4⟩ := h.blk k x hk
  exact ⟨b, cs, mk, h1, by rw [hb.block b (heap_lt h2)]; exact h2, h3, h4⟩

section
variable {P : Program}

theorem cell_at {w : World} {b o : Nat} {cs : Array Value} {T : Nat} {mk : Nat × Nat} (h : w.heap[b]? = some (.cells cs T mk)) : w.cell? ⟨b, o, none⟩ = cs[o]? := by
  simp [World.cell?, h]

theorem run_load_part {w : World} {b : Nat} {c1 c2 c3 : List Value} {T : Nat} {mk : Nat × Nat} {p : Path} (h : w.heap[b]? = some (.cells (c1 ++ c2 ++ c3).toArray T mk)) (ho : c1.length = off p) :
    (loadCells ⟨b, off p, none⟩ c2.length).run P w = .ok c2.toArray w := by
  apply run_loadCells_list
  intro j v hj
  have : (⟨b, off p, none⟩ : Addr).add j = ⟨b, off p + j, none⟩ := by unfold Addr.add; split <;> simp_all
  rw [this, cell_at h, ← ho]
  have hjl : j < c2.length := by
    rcases Nat.lt_or_ge j c2.length with h' | h'
    · exact h'
    · simp [List.getElem?_eq_none h'] at hj
  simp only [List.getElem?_toArray]
  rw [List.append_assoc, List.getElem?_append_right (by omega), List.getElem?_append_left (by omega)]
  rw [← hj]
  congr 1
  omega

theorem run_load_one {w : World} {b : Nat} {c1 c3 : List Value} {x : Value} {T : Nat} {mk : Nat × Nat} {p : Path} (h : w.heap[b]? = some (.cells (c1 ++ [x] ++ c3).toArray T mk)) (ho : c1.length = off p) :
    (load ⟨b, off p, none⟩).run P w = .ok x w := by
  rw [run_load, cell_at h, ← ho]
  simp

mutual
/-- What is laid in cells can be stored cell by cell. -/
theorem RC.each {ρ : Env} : ∀ (v : AV) (cs : List Value), RC ρ v cs → ∀ c ∈ cs, c.oneCell' = true
  | .agg l, cs, hr => by simp only [RC] at hr; exact RCs.each l cs hr
  | .u y, cs, hr => by simp only [RC] at hr; subst hr; simp [limbs, Value.oneCell']
  | .ints k n l, cs, hr => by simp only [RC] at hr; obtain ⟨_, rfl⟩ := hr; intro c hc; simp at hc; obtain ⟨a, _, rfl⟩ := hc; rfl
  | .bool b, cs, hr => by simp only [RC] at hr; subst hr; simp [Value.oneCell']
  | .int k n, cs, hr => by simp only [RC] at hr; subst hr; simp [Value.oneCell']
  | .str s, cs, hr => by simp only [RC] at hr; subst hr; simp [Value.oneCell']
  | .ptr k p, cs, hr => by simp only [RC] at hr; obtain ⟨b, hb, rfl⟩ := hr; simp [Value.oneCell']
  | .nilp, cs, hr => by simp only [RC] at hr; subst hr; simp [Value.oneCell']
  | .sl k p len cap, cs, hr => by simp only [RC] at hr; obtain ⟨b, hb, rfl⟩ := hr; simp [Value.oneCell']
  | .nilsl, cs, hr => by simp only [RC] at hr; subst hr; simp [Value.oneCell']
  | .fn f cap, cs, hr => by simp only [RC] at hr; obtain ⟨xs, hx, rfl⟩ := hr; simp [Value.oneCell']
  | .nilfn, cs, hr => by simp only [RC] at hr; subst hr; simp [Value.oneCell']
  | .raw v, cs, hr => by simp only [RC] at hr; obtain ⟨h, rfl⟩ := hr; simpa using h
  | .any, cs, hr => by simp only [RC] at hr; obtain ⟨x, h, rfl⟩ := hr; simpa using h
  | .undef, cs, hr => by simp only [RC] at hr
  | .tup l, cs, hr => by simp only [RC] at hr
theorem RCs.each {ρ : Env} : ∀ (l : List AV) (cs : List Value), RCs ρ l cs → ∀ c ∈ cs, c.oneCell' = true
  | [], cs, hr => by simp only [RCs] at hr; subst hr; simp
  | v :: l, cs, hr => by
    simp only [RCs] at hr
    obtain ⟨c1, c2, h1, h2, rfl⟩ := hr
    intro c hc
    rcases List.mem_append.1 hc with h | h
    · exact RC.each v c1 h1 c h
    · exact RCs.each l c2 h2 c h
end

theorem run_store_part {w : World} {b : Nat} {c1 c2 c3 cc : List Value} {T : Nat} {p : Path} (h : w.heap[b]? = some (.cells (c1 ++ c2 ++ c3).toArray T (0, 0))) (ho : c1.length = off p)
    (hl : c2.length = cc.length) (h1 : ∀ v ∈ cc, v.oneCell' = true) :
    (storeCells ⟨b, off p, none⟩ cc).run P w = .ok () (w.setRow b (c1 ++ cc ++ c3).toArray) := by
  rw [run_storeCells_at P b (off p) T cc 0 _ w h (by simp; omega) h1]
  congr 3
  simp only [Nat.add_zero, ← ho, ← hl]
  have e1 : List.take c1.length (c1 ++ c2 ++ c3) = c1 := by rw [List.append_assoc]; exact List.take_left' rfl
  have e2 : List.drop (c1.length + c2.length) (c1 ++ c2 ++ c3) = c3 := by rw [← List.length_append]; exact List.drop_left' rfl
  rw [e1, e2]

/-! ### Types -/
def isAggT (P : Program) (T : Nat) : Bool :=
  match P.underlying T with
  | some (.struct _) | some (.array _ _) => true
  | _ => false

theorem run_underlying' {P : Program} {T : Nat} {d : TypeDesc} (h : P.underlying T = some d) (w : World) : (underlying T).run P w = .ok d w := by
  simp [underlying, h]

theorem info_of_underlying {P : Program} {T : Nat} {d : TypeDesc} (h : P.underlying T = some d) : ∃ i, P.info? T = some i := by
  unfold Program.underlying at h
  split at h
  · exact ⟨_, by assumption⟩
  · exact ⟨_, by assumption⟩
  · simp at h

theorem run_sizeOf' {P : Program} {T : Nat} {d : TypeDesc} (h : P.underlying T = some d) (w : World) : (sizeOf T).run P w = .ok (P.cellsOf T) w := by
  obtain ⟨i, hi⟩ := info_of_underlying h
  simp [sizeOf, typeInfo, hi, Program.cellsOf]

theorem run_isAgg' {P : Program} {T : Nat} {d : TypeDesc} (h : P.underlying T = some d) (w : World) : (isAgg T).run P w = .ok (isAggT P T) w := by
  unfold isAgg isAggT
  simp only [Sem.run_bind, run_underlying' h, Result.andThen_ok, h]
  cases d <;> rfl

end
end Go.Proofs.Ytglcjmnkhmdlhaa

/- The operations of a symbolic run, one by one. -/
namespace Go.Proofs.Ytglcjmnkhmdlhaa
open Go Go.RowKit

structure Eff where
  v : AV
  ob : List Bool := []
  rd : List Nat := []
  wr : Option (Nat × Blk) := none

def Eff.app (H : Heap) : Option (Nat × Blk) → Heap
  | none => H
  | some (k, b) => hset H k b

/-! ### Constants -/
def ofS : Value → AV
  | .bool b => .bool b
  | .int k n => .int k n
  | .string s => .str s
  | .pointer none => .nilp
  | .nilFunc => .nilfn
  | .slice none 0 0 => .nilsl
  | v => match v.oneCell' with
    | true => .raw v
    | false => .any

theorem ofS_RC (ρ : Env) (v : Value) (h : v.oneCell' = true) : RC ρ (ofS v) [v] := by
  unfold ofS
  split
  all_goals first | (simp only [RC]; done) | (rw [h]; simp only [RC]; exact ⟨h, trivial⟩)

def intsOf (k : IntKind) : List Value → Option (List Int)
  | [] => some []
  | .int k' n :: r => match kindEq k k' with
    | true => (intsOf k r).map (n :: ·)
    | false => none
  | _ :: _ => none

theorem intsOf_eq (k : IntKind) : ∀ (cs : List Value) (l : List Int), intsOf k cs = some l → cs = l.map (Value.int k)
  | [], l, h => by simp [intsOf] at h; subst h; rfl
  | c :: cs, l, h => by
    cases c <;> simp only [intsOf] at h <;> try contradiction
    split at h
    · rename_i hk
      rw [kindEq_eq hk]
      cases hr : intsOf k cs with
      | none => simp [hr] at h
      | some r =>
        simp [hr] at h; subst h
        rw [intsOf_eq k cs r hr, kindEq_eq hk]; rfl
    · contradiction

def ofCells (cs : List Value) : AV :=
  match cs with
  | .int k _ :: _ => match intsOf k cs with
    | some l => .ints k l.length l
    | none => .any
  | _ => .any

def ofV : Value → AV
  | .agg cs => ofCells cs.toList
  | .tuple cs => match cs.toList with
    | [] => .undef
    | _ :: _ => .any
  | v => ofS v

theorem ofV_RV (ρ : Env) (v : Value) : RV ρ (ofV v) v := by
  have one : v.oneCell' = true → RV ρ (ofS v) v := fun h => by
    have hc := ofS_RC ρ v h
    unfold ofS at hc ⊢
    split <;> simp only [RV, RV1, RC] at * <;> try trivial
    simp only [h] at *
    simpa only [RV, RV1] using hc
  cases v <;> try exact one rfl
  case agg cs =>
    simp only [ofV, ofCells]
    split
    · split
      · rename_i l hl
        simp only [RV, RV1]
        refine ⟨trivial, ?_⟩
        rw [← intsOf_eq _ _ _ hl]
      · simp only [RV, RV1]
    · simp only [RV, RV1]
  case tuple cs =>
    simp only [ofV]
    split
    · rename_i h
      simp only [RV, RV1, undef]
      have : cs = #[] := by cases cs; simp_all
      rw [this]
    · simp only [RV, RV1]

/-! ### Slots -/
def sget : List AV → Nat → AV
  | [], _ => .undef
  | v :: _, 0 => v
  | _ :: l, k + 1 => sget l k

def sset : List AV → Nat → AV → List AV
  | [], _, _ => []
  | _ :: l, 0, v => v :: l
  | x :: l, k + 1, v => x :: sset l k v

def SlotsR (ρ : Env) (ss : List AV) (tmps : Array Value) : Prop := ∀ i, RV ρ (sget ss i) (tmps.getD i undef) 

def evS (ss : List AV) : Operand → AV
  | .tmp t => sget ss t
  | .const v => ofV v
  | .global _ => .any
  | .func f => .fn f []

theorem evS_RV {ρ : Env} {ss : List AV} {a : Act} (h : SlotsR ρ ss a.tmps) (x : Operand) : RV ρ (evS ss x) (a.eval x) := by
  cases x with
  | tmp t => exact h t
  | const v => exact ofV_RV ρ v
  | global g => simp [evS, RV, RV1]
  | func f => simp [evS, RV, RV1, RC, RCs, Act.eval]

theorem sget_sset : ∀ (l : List AV) (k j : Nat) (v : AV), sget (sset l k v) j = if j = k ∧ k < l.length then v else sget l j
  | [], k, j, v => by simp [sset]
  | x :: l, 0, 0, v => by simp [sset, sget]
  | x :: l, 0, j + 1, v => by simp [sset, sget]
  | x :: l, k + 1, 0, v => by simp [sset, sget]
  | x :: l, k + 1, j + 1, v => by simp only [sset, sget]; rw [sget_sset l k j v]; simp

theorem sset_length : ∀ (l : List AV) (k : Nat) (v : AV), (sset l k v).length = l.length
  | [], _, _ => rfl
  | _ :: l, 0, _ => rfl
  | _ :: l, k + 1, v => by simp [sset, sset_length l k v]

theorem sset_comm : ∀ (l : List AV) (k j : Nat) (v u : AV), k ≠ j → sset (sset l k v) j u = sset (sset l j u) k v
  | [], _, _, _, _, _ => rfl
  | x :: l, 0, 0, _, _, h => absurd rfl h
  | x :: l, 0, j + 1, v, u, _ => by simp [sset]
  | x :: l, k + 1, 0, v, u, _ => by simp [sset]
  | x :: l, k + 1, j + 1, v, u, h => by simp only [sset]; rw [sset_comm l k j v u (by omega)]

def sput (ss : List AV) : Option Tmp → AV → List AV
  | none, _ => ss
  | some d, v => sset ss d v

theorem SlotsR.mono {ρ ρ' : Env} {ss : List AV} {t : Array Value} (h : SlotsR ρ ss t) (hle : Env.le ρ ρ') : SlotsR ρ' ss t := fun i => (h i).mono hle

theorem SlotsR.put {ρ : Env} {ss : List AV} {a : Act} (h : SlotsR ρ ss a.tmps) (hl : ss.length = a.tmps.size) (dst : Option Tmp) {v : AV} {x : Value} (hv : RV ρ v x) :
    SlotsR ρ (sput ss dst v) (a.put dst x).tmps ∧ (sput ss dst v).length = (a.put dst x).tmps.size := by
  cases dst with
  | none => exact ⟨h, hl⟩
  | some d =>
    refine ⟨fun i => ?_, by simp [sput, sset_length, Act.put, hl]⟩
    simp only [sput, sget_sset, Act.put]
    by_cases hi : i = d ∧ d < ss.length
    · obtain ⟨rfl, hd⟩ := hi
      rw [if_pos ⟨rfl, hd⟩]
      simpa [Array.getElem?_setIfInBounds, ← hl, hd] using hv
    · rw [if_neg hi]
      have := h i
      simp only [Array.getD_eq_getD_getElem?, Array.getElem?_setIfInBounds] at *
      by_cases e : d = i
      · subst e
        have : ¬ d < a.tmps.size := by rw [← hl]; exact fun h' => hi ⟨rfl, h'⟩
        simp [this] at *
        assumption
      · simpa [e] using this
end Go.Proofs.Ytglcjmnkhmdlhaa

/- The operations of a symbolic run, one by one. -/
namespace Go.Proofs.Ytglcjmnkhmdlhaa
open Go Go.RowKit

/-! ### A constant of a type, in parts -/
def takeInts (k : IntKind) : Nat → List Value → Option (List Int × List Value)
  | 0, cs => some ([], cs)
  | m + 1, .int k' n :: cs => match kindEq k k' with
    | true => (takeInts k m cs).map fun r => (n :: r.1, r.2)
    | false => none
  | _ + 1, _ => none

theorem takeInts_eq (k : IntKind) : ∀ (m : Nat) (cs : List Value) (l : List Int) (r : List Value), takeInts k m cs = some (l, r) → cs = l.map (Value.int k) ++ r ∧ l.length = m
  | 0, cs, l, r, h => by simp [takeInts] at h; obtain ⟨rfl, rfl⟩ := h; simp
  | m + 1, [], l, r, h => by simp [takeInts] at h
  | m + 1, c :: cs, l, r, h => by
    cases c <;> simp only [takeInts] at h <;> try contradiction
    split at h
    · rename_i hk
      cases hr : takeInts k m cs with
      | none => simp [hr] at h
      | some q =>
        simp [hr] at h
        obtain ⟨rfl, rfl⟩ := h
        obtain ⟨h1, h2⟩ := takeInts_eq k m cs q.1 q.2 hr
        rw [← kindEq_eq hk]
        exact ⟨by simpa using h1, by simp [h2]⟩
    · contradiction

def parseN (g : List Value → Option (AV × List Value)) : Nat → List Value → Option (List AV × List Value)
  | 0, cs => some ([], cs)
  | m + 1, cs => (g cs).bind fun r => (parseN g m r.2).map fun q => (r.1 :: q.1, q.2)

def parseL (g : Nat → List Value → Option (AV × List Value)) : List Field → List Value → Option (List AV × List Value)
  | [], cs => some ([], cs)
  | f :: fs, cs => (g f.type cs).bind fun r => (parseL g fs r.2).map fun q => (r.1 :: q.1, q.2)

def parse (P : Program) : Nat → Nat → List Value → Option (AV × List Value)
  | 0, _, _ => none
  | n + 1, T, cs => match P.underlying T with
    | some (.array m e) => match P.underlying e with
      | some (.int k) => (takeInts k m cs).map fun r => (.ints k m r.1, r.2)
      | _ => (parseN (parse P n e) m cs).map fun r => (.agg r.1, r.2)
    | some (.struct fs) => (parseL (parse P n) fs.toList cs).map fun r => (.agg r.1, r.2)
    | _ => match cs with
      | [] => none
      | v :: r => match v.oneCell' with
        | true => some (ofS v, r)
        | false => none

def Parses (ρ : Env) (g : List Value → Option (AV × List Value)) : Prop := ∀ cs v r, g cs = some (v, r) → ∃ c, cs = c ++ r ∧ RC ρ v c

theorem parseN_sound {ρ : Env} {g : List Value → Option (AV × List Value)} (hg : Parses ρ g) : ∀ (m : Nat) (cs : List Value) (l : List AV) (r : List Value), parseN g m cs = some (l, r) → ∃ c, cs = c ++ r ∧ RCs ρ l c
  | 0, cs, l, r, h => by simp [parseN] at h; obtain ⟨rfl, rfl⟩ := h; exact ⟨[], by simp, by simp [RCs]⟩
  | m + 1, cs, l, r, h => by
    simp only [parseN] at h
    cases h1 : g cs with
    | none => simp [h1] at h
    | some q =>
      simp [h1] at h
      obtain ⟨a, ⟨h2, rfl⟩⟩ := h
      obtain ⟨c1, e1, r1⟩ := hg cs q.1 q.2 h1
      obtain ⟨c2, e2, r2⟩ := parseN_sound hg m q.2 _ _ h2
      exact ⟨c1 ++ c2, by rw [e1, e2]; simp, by simp only [RCs]; exact ⟨c1, c2, r1, r2, rfl⟩⟩

theorem parseL_sound {ρ : Env} {g : Nat → List Value → Option (AV × List Value)} (hg : ∀ t, Parses ρ (g t)) : ∀ (fs : List Field) (cs : List Value) (l : List AV) (r : List Value), parseL g fs cs = some (l, r) → ∃ c, cs = c ++ r ∧ RCs ρ l c
  | [], cs, l, r, h => by simp [parseL] at h; obtain ⟨rfl, rfl⟩ := h; exact ⟨[], by simp, by simp [RCs]⟩
  | f :: fs, cs, l, r, h => by
    simp only [parseL] at h
    cases h1 : g f.type cs with
    | none => simp [h1] at h
    | some q =>
      simp [h1] at h
      obtain ⟨a, ⟨h2, rfl⟩⟩ := h
      obtain ⟨c1, e1, r1⟩ := hg f.type cs q.1 q.2 h1
      obtain ⟨c2, e2, r2⟩ := parseL_sound hg fs q.2 _ _ h2
      exact ⟨c1 ++ c2, by rw [e1, e2]; simp, by simp only [RCs]; exact ⟨c1, c2, r1, r2, rfl⟩⟩

theorem parse_sound (P : Program) (ρ : Env) : ∀ (n T : Nat), Parses ρ (parse P n T)
  | 0, _ => by intro cs v r h; simp [parse] at h
  | n + 1, T => by
    have last : ∀ (cs : List Value) (v : AV) (r : List Value), (match cs with
        | [] => none
        | v :: r => match v.oneCell' with
          | true => some (ofS v, r)
          | false => none) = some (v, r) → ∃ c, cs = c ++ r ∧ RC ρ v c := by
      intro cs v r h
      cases cs with
      | nil => simp at h
      | cons c cs =>
        simp only at h
        split at h
        · rename_i h1
          simp at h
          obtain ⟨rfl, rfl⟩ := h
          exact ⟨[c], rfl, ofS_RC ρ c h1⟩
        · contradiction
    intro cs v r h
    simp only [parse] at h
    split at h
    · rename_i m e _
      split at h
      · rename_i k _
        cases h1 : takeInts k m cs with
        | none => simp [h1] at h
        | some q =>
          simp [h1] at h
          obtain ⟨rfl, rfl⟩ := h
          obtain ⟨e1, e2⟩ := takeInts_eq k m cs q.1 q.2 h1
          exact ⟨_, e1, by simp only [RC]; exact ⟨e2, trivial⟩⟩
      · cases h1 : parseN (parse P n e) m cs with
        | none => simp [h1] at h
        | some q =>
          simp [h1] at h
          obtain ⟨rfl, rfl⟩ := h
          obtain ⟨c, e1, e2⟩ := parseN_sound (parse_sound P ρ n e) m cs q.1 q.2 h1
          exact ⟨c, e1, by simpa only [RC] using e2⟩
    · rename_i fs _
      cases h1 : parseL (parse P n) fs.toList cs with
      | none => simp [h1] at h
      | some q =>
        simp [h1] at h
        obtain ⟨rfl, rfl⟩ := h
        obtain ⟨c, e1, e2⟩ := parseL_sound (fun t => parse_sound P ρ n t) fs.toList cs q.1 q.2 h1
        exact ⟨c, e1, by simpa only [RC] using e2⟩
    · exact last cs v r h

def isAggV : Value → Bool
  | .agg _ => true
  | _ => false
theorem isAggV_eq {v : Value} (h : isAggV v = true) : v = .agg v.cells := by cases v <;> first | rfl | simp [isAggV] at h
theorem isAggV_cells {v : Value} (h : isAggV v = false) : v.cells.toList = [v] := by cases v <;> first | rfl | simp [isAggV] at h

/-- A value 'v' without places, as one of type 'T'. -/
def shapeV (P : Program) (T : Nat) (v : Value) : Option AV :=
  match parse P 20 T v.cells.toList with
  | some (a, []) => match isAggT P T && isAggV v && a.isAgg || !isAggT P T && !isAggV v && a.one with
    | true => some a
    | false => none
  | _ => none

theorem shapeV_sound {P : Program} {T : Nat} {v : Value} {a : AV} (ρ : Env) (h : shapeV P T v = some a) : RC ρ a v.cells.toList ∧ RV ρ a v ∧ (a.isAgg || a.one) = true := by
  unfold shapeV at h
  split at h <;> try contradiction
  rename_i a' hp
  obtain ⟨c, e1, hr⟩ := parse_sound P ρ 20 T _ _ _ hp
  simp at e1; subst e1
  split at h <;> try contradiction
  rename_i hc
  simp at h; subst h
  simp only [Bool.or_eq_true, Bool.and_eq_true, Bool.not_eq_true'] at hc
  rcases hc with ⟨⟨_, h2⟩, h3⟩ | ⟨⟨_, h2⟩, h3⟩
  · refine ⟨hr, ?_, by simp [h3]⟩
    have := RV.of_cells hr h3
    rw [isAggV_eq h2]
    simpa using this
  · refine ⟨hr, ?_, by simp [h3]⟩
    obtain ⟨x, e, hx, h1⟩ := RV.of_cell hr h3
    rw [isAggV_cells h2] at e
    simp at e; subst e
    exact hx

/-- An operand of a type: a constant is taken apart by it. -/
def evT (P : Program) (ss : List AV) (T : Nat) (x : Operand) : AV :=
  match x with
  | .const v => (shapeV P T v).getD (ofV v)
  | x => evS ss x

theorem evT_RV {P : Program} {ρ : Env} {ss : List AV} {a : Act} (h : SlotsR ρ ss a.tmps) (T : Nat) (x : Operand) : RV ρ (evT P ss T x) (a.eval x) := by
  unfold evT
  split
  · rename_i v
    cases hs : shapeV P T v with
    | none => exact ofV_RV ρ v
    | some c => exact (shapeV_sound ρ hs).2.1
  · exact evS_RV h _

/-! ### What an operation gives -/
def Gives (P : Program) (ρ : Env) (H : Heap) (B : Fr) (W w : World) (s : Sem Next) (E : Eff) : Prop :=
  ∃ x ρ' w', (s.run P w = .ok (.value x) w' ∨ (s.run P w = .ok .skip w' ∧ x = undef)) ∧ Env.le ρ ρ' ∧ RV ρ' E.v x ∧ Rep ρ' (Eff.app H E.wr) B W w'

theorem Gives.pure {P : Program} {ρ : Env} {H : Heap} {B : Fr} {W w : World} {s : Sem Next} {v : AV} {x : Value} {ob : List Bool} {rd : List Nat} (hr : Rep ρ H B W w) (h : s.run P w = .ok (.value x) w) (hv : RV ρ v x) :
    Gives P ρ H B W w s { v := v, ob := ob, rd := rd } := ⟨x, ρ, w, .inl h, Env.le.refl ρ, hv, hr⟩

section
variable {P : Program} {ρ : Env} {H : Heap} {B : Fr} {W w : World} {ss : List AV} {a : Act} {o : Oper} {E : Eff}

/-- A new block for 'v'. -/
def effNew (lk : Nat → Option Blk) (key T : Nat) (v : AV) : Option Eff :=
  match v.isAgg || v.one, lk key with
  | true, none => some { v := .ptr key [], rd := [key], wr := some (key, ⟨T, v, true⟩) }
  | _, _ => none

theorem newVar_run (T : Nat) (v : Value) : (newVar T v).run P w = .ok ⟨w.heap.size, 0, none⟩ (w.alloc (.cells v.cells T)) := by
  simp [newVar, newRow]

theorem effNew_sound {key T : Nat} {v : AV} {x : Value} {s : Sem Next} (hr : Rep ρ H B W w) (hv : RC ρ v x.cells.toList)
    (hs : s.run P w = .ok (.value (.pointer (some ⟨w.heap.size, 0, none⟩))) (w.alloc (.cells x.cells T))) (h : effNew (hget H) key T v = some E) : Gives P ρ H B W w s E := by
  unfold effNew at h
  split at h <;> try contradiction
  rename_i hk
  simp at h; subst h
  obtain ⟨h1, h2⟩ := hr.alloc (T := T) hk hv
  simp only [Array.toArray_toList] at h2
  exact ⟨_, _, _, .inl hs, h1, by simp [RV, RV1, RC, upd, off], h2⟩

def effAlloc (P : Program) (lk : Nat → Option Blk) (key T : Nat) : Option Eff :=
  match P.info? T with
  | some i => match i.zero with
    | some z => (shapeV P T z).bind fun v => effNew lk key T v
    | none => none
  | none => none

theorem effAlloc_sound {key T : Nat} (hr : Rep ρ H B W w) (ho : o.op = .alloc T) (h : effAlloc P (hget H) key T = some E) : Gives P ρ H B W w (execOp a.eval o) E := by
  unfold effAlloc at h
  split at h <;> try contradiction
  rename_i i hi
  split at h <;> try contradiction
  rename_i z hz
  cases hs : shapeV P T z with
  | none => simp [hs] at h
  | some v =>
    simp only [hs, Option.bind_some] at h
    refine effNew_sound (x := z) hr (shapeV_sound ρ hs).1 ?_ h
    simp [execOp, ho, Instr.alloc, zeroValue, typeInfo, hi, hz, newVar_run]

def effBox (P : Program) (ss : List AV) (lk : Nat → Option Blk) (key T : Nat) (x : Operand) : Option Eff := effNew lk key T (evT P ss T x)

theorem effBox_sound {key T : Nat} {x : Operand} (hr : Rep ρ H B W w) (hsl : SlotsR ρ ss a.tmps) (ho : o.op = .box T x) (h : effBox P ss (hget H) key T x = some E) : Gives P ρ H B W w (execOp a.eval o) E := by
  unfold effBox at h
  have hv := evT_RV (P := P) hsl T x
  have hc : ((evT P ss T x).isAgg || (evT P ss T x).one) = true := by
    unfold effNew at h
    split at h <;> try contradiction
    assumption
  refine effNew_sound hr (hv.cells hc) ?_ h
  simp [execOp, ho, Instr.box, newVar_run]

def Path.step (p : Path) (b i s : Nat) : Path := p ++ [(b, i, s)]
theorem off_append : ∀ (p q : Path), off (p ++ q) = off p + off q
  | [], q => by simp [off]
  | (b, i, s) :: p, q => by simp only [List.cons_append, off, off_append p q]; omega

def effLoad (P : Program) (sym : Bool) (ss : List AV) (lk : Nat → Option Blk) (T : Nat) (x : Operand) : Option Eff :=
  match evS ss x with
  | .ptr k p => match lk k with
    | some b => match b.v.get sym p, P.underlying T with
      | some (ob, c), some _ => match isAggT P T with
        | true => match c.isAgg && Nat.beq c.size (P.cellsOf T) with
          | true => some { v := c, ob := ob, rd := [k] }
          | false => none
        | false => match c.one with
          | true => some { v := c, ob := ob, rd := [k] }
          | false => none
      | _, _ => none
    | none => none
  | _ => none

theorem loadVar_run {T : Nat} {k : Nat} {p : Path} {b : Blk} {ob : List Bool} {c : AV} {ad : Addr} {d : TypeDesc} (sym : Bool) (hr : Rep ρ H B W w) (hk : hget H k = some b) (hp : RC ρ (.ptr k p) [.pointer (some ad)])
    (hg : b.v.get sym p = some (ob, c)) (hob : ∀ b ∈ ob, b = true) (hd : P.underlying T = some d)
    (hT : if isAggT P T = true then c.isAgg = true ∧ c.size = P.cellsOf T else c.one = true) : ∃ x, (loadVar T ad).run P w = .ok x w ∧ RV ρ c x := by
  simp only [RC] at hp
  obtain ⟨bb, hb, e⟩ := hp
  simp at e; subst e
  obtain ⟨bb', cs, mk, hb', hh, hrc, _⟩ := hr.blk k b hk
  rw [hb] at hb'; simp at hb'; subst hb'
  obtain ⟨c1, c2, c3, rfl, hl, hc⟩ := AV.get_sound sym p _ _ _ _ hrc hg hob
  cases ht : isAggT P T with
  | true =>
    rw [if_pos ht] at hT
    have hsz := RC.length _ _ hc
    refine ⟨.agg c2.toArray, ?_, RV.of_cells hc hT.1⟩
    simp only [loadVar, Sem.run_bind, run_isAgg' hd, Result.andThen_ok, ht, if_true, run_sizeOf' hd, ← hT.2, ← hsz, run_load_part hh hl, Sem.run_pure]
  | false =>
    rw [if_neg (by simp [ht])] at hT
    obtain ⟨x, rfl, hx, _⟩ := RV.of_cell hc hT
    refine ⟨x, ?_, hx⟩
    simp only [loadVar, Sem.run_bind, run_isAgg' hd, Result.andThen_ok, ht, run_load_one hh hl, Bool.false_eq_true, if_false]

theorem RV_ptr {k : Nat} {p : Path} {x : Value} (h : RV ρ (.ptr k p) x) : ∃ ad, x = .pointer (some ad) ∧ RC ρ (.ptr k p) [.pointer (some ad)] := by
  simp only [RV, RV1, RC] at h
  obtain ⟨b, hb, e⟩ := h
  simp at e
  exact ⟨_, e, by simp only [RC]; exact ⟨b, hb, rfl⟩⟩

theorem effLoad_sound {sym : Bool} {T : Nat} {x : Operand} (hr : Rep ρ H B W w) (hsl : SlotsR ρ ss a.tmps) (ho : o.op = .load T x) (h : effLoad P sym ss (hget H) T x = some E) (hob : ∀ b ∈ E.ob, b = true) : Gives P ρ H B W w (execOp a.eval o) E := by
  unfold effLoad at h
  have hx := evS_RV hsl x
  split at h <;> try contradiction
  rename_i k p he
  rw [he] at hx
  obtain ⟨ad, ex, hp⟩ := RV_ptr hx
  split at h <;> try contradiction
  rename_i b hk
  split at h <;> try contradiction
  rename_i ob c d hg hd
  have key : (if isAggT P T = true then c.isAgg = true ∧ c.size = P.cellsOf T else c.one = true) ∧ E = { v := c, ob := ob, rd := [k] } := by
    split at h
    · rename_i ht
      split at h <;> try contradiction
      rename_i hc
      simp at h
      simp only [Bool.and_eq_true] at hc
      rw [if_pos ht]
      exact ⟨⟨hc.1, Nat.eq_of_beq_eq_true hc.2⟩, h.symm⟩
    · rename_i ht
      split at h <;> try contradiction
      rename_i hc
      simp at h
      rw [if_neg (by simp [ht])]
      exact ⟨hc, h.symm⟩
  obtain ⟨hT, rfl⟩ := key
  obtain ⟨y, hy, hv⟩ := loadVar_run sym hr hk hp hg hob hd hT
  refine Gives.pure hr ?_ hv
  simp [execOp, ho, Instr.loadAt, ex, Instr.sureAddr, hy]

def effStore (P : Program) (sym : Bool) (ss : List AV) (lk : Nat → Option Blk) (T : Nat) (x y : Operand) : Option Eff :=
  match evS ss x with
  | .ptr k p => match lk k with
    | some b => match b.own, b.v.set sym p (evT P ss T y), P.underlying T with
      | true, some (ob, v'), some _ => match ((evT P ss T y).isAgg || (evT P ss T y).one) && Nat.beq (evT P ss T y).size (P.cellsOf T) with
        | true => some { v := .undef, ob := ob, rd := [k], wr := some (k, { b with v := v' }) }
        | false => none
      | _, _, _ => none
    | none => none
  | _ => none

theorem effStore_sound {sym : Bool} {T : Nat} {x y : Operand} (hr : Rep ρ H B W w) (hsl : SlotsR ρ ss a.tmps) (ho : o.op = .store T x y) (h : effStore P sym ss (hget H) T x y = some E) (hob : ∀ b ∈ E.ob, b = true) : Gives P ρ H B W w (execOp a.eval o) E := by
  unfold effStore at h
  have hx := evS_RV hsl x
  have hy := evT_RV (P := P) hsl T y
  split at h <;> try contradiction
  rename_i k p he
  rw [he] at hx
  obtain ⟨ad, ex, hp⟩ := RV_ptr hx
  split at h <;> try contradiction
  rename_i b hk
  split at h <;> try contradiction
  rename_i ob v' d hown hset hd
  split at h <;> try contradiction
  rename_i hc
  simp at h; subst h
  simp only [Bool.and_eq_true] at hc
  obtain ⟨hc1, hc2⟩ := hc
  have hc2 := Nat.eq_of_beq_eq_true hc2
  have hcc := hy.cells hc1
  simp only [RC] at hp
  obtain ⟨bb, hb, e⟩ := hp
  simp at e; subst e
  obtain ⟨bb', cs, mk, hb', hh, hrc, hO⟩ := hr.blk k b hk
  rw [hb] at hb'; simp at hb'; subst hb'
  obtain ⟨_, rfl⟩ := hO hown
  obtain ⟨c1, c2, c3, rfl, hl, hl2, hrc'⟩ := AV.set_sound sym p _ _ _ _ _ _ hrc hcc hset hob
  have hsz := RC.length _ _ hcc
  refine ⟨undef, ρ, w.setRow bb (c1 ++ (a.eval y).cells.toList ++ c3).toArray, .inr ⟨?_, rfl⟩, Env.le.refl ρ, by simp [RV, RV1], hr.setRow hk hb hown hrc'⟩
  have hst := run_store_part (P := P) hh hl hl2 (RC.each _ _ hcc)
  have hsz' : (a.eval y).cells.size = P.cellsOf T := by rw [← hc2, ← hsz]; simp
  simp [execOp, ho, Instr.storeAt, ex, Instr.sureAddr, storeVar, run_sizeOf' hd, hsz', hst]
end
end Go.Proofs.Ytglcjmnkhmdlhaa

/- The operations of a symbolic run, one by one: numbers, places, parts. -/
namespace Go.Proofs.Ytglcjmnkhmdlhaa
open Go Go.RowKit

def iand (k : IntKind) (x y : Int) : Int := k.wrap ((BitVec.ofInt k.bits x &&& BitVec.ofInt k.bits y).toNat : Int)
def ior (k : IntKind) (x y : Int) : Int := k.wrap ((BitVec.ofInt k.bits x ||| BitVec.ofInt k.bits y).toNat : Int)
def ixor (k : IntKind) (x y : Int) : Int := k.wrap ((BitVec.ofInt k.bits x ^^^ BitVec.ofInt k.bits y).toNat : Int)
def iandn (k : IntKind) (x y : Int) : Int := k.wrap ((BitVec.ofInt k.bits x &&& ~~~ BitVec.ofInt k.bits y).toNat : Int)
def ishl (k : IntKind) (x y : Int) : Int := k.wrap (x * 2 ^ (min y.toNat k.bits))
def ishr (k : IntKind) (x y : Int) : Int := x.fdiv (2 ^ (min y.toNat k.bits))

def ifk {α : Type} (k k2 : IntKind) (r : Option α) : Option α :=
  match kindEq k k2 with
  | true => r
  | false => none

/-- An operation on two integers of the kinds 'k' and 'k2'. -/
def arith (sym : Bool) (op : BinOp) (k k2 : IntKind) (x y : Int) : Option (List Bool × AV) :=
  match op with
  | .shl => (chk sym (decide (0 ≤ y))).map fun ob => (ob, .int k (ishl k x y))
  | .shr => (chk sym (decide (0 ≤ y))).map fun ob => (ob, .int k (ishr k x y))
  | .quo => ifk k k2 ((chk sym (!(decide (y = 0)))).map fun ob => (ob, .int k (k.wrap (x.tdiv y))))
  | .rem => ifk k k2 ((chk sym (!(decide (y = 0)))).map fun ob => (ob, .int k (x.tmod y)))
  | .add => ifk k k2 (some ([], .int k (k.wrap (x + y))))
  | .sub => ifk k k2 (some ([], .int k (k.wrap (x - y))))
  | .mul => ifk k k2 (some ([], .int k (k.wrap (x * y))))
  | .and => ifk k k2 (some ([], .int k (iand k x y)))
  | .or => ifk k k2 (some ([], .int k (ior k x y)))
  | .xor => ifk k k2 (some ([], .int k (ixor k x y)))
  | .andNot => ifk k k2 (some ([], .int k (iandn k x y)))
  | .eql => ifk k k2 (some ([], .bool (x == y)))
  | .neq => ifk k k2 (some ([], .bool (x != y)))
  | .lss => ifk k k2 (some ([], .bool (decide (x < y))))
  | .leq => ifk k k2 (some ([], .bool (decide (x ≤ y))))
  | .gtr => ifk k k2 (some ([], .bool (decide (x > y))))
  | .geq => ifk k k2 (some ([], .bool (decide (x ≥ y))))

theorem ifk_some {α : Type} {k k2 : IntKind} {r : Option α} {v : α} (h : ifk k k2 r = some v) : k = k2 ∧ r = some v := by
  unfold ifk at h
  split at h
  · rename_i hk; exact ⟨kindEq_eq hk, h⟩
  · contradiction

section
variable {P : Program} {ρ : Env} {H : Heap} {B : Fr} {W w : World} {ss : List AV} {a : Act} {o : Oper} {E : Eff}

theorem arith_sound {sym : Bool} {op : BinOp} {k k2 : IntKind} {x y : Int} {T : Nat} {ob : List Bool} {v : AV} (h : arith sym op k k2 x y = some (ob, v)) (hob : ∀ b ∈ ob, b = true) :
    ∃ z, (binOp op T (.int k x) (.int k2 y)).run P w = .ok z w ∧ RV ρ v z := by
  cases op <;> simp only [arith] at h
  case shl =>
    cases hc : chk sym (decide (0 ≤ y)) with
    | none => simp [hc] at h
    | some q =>
      simp [hc] at h; obtain ⟨rfl, rfl⟩ := h
      have := chk_sound hc hob
      simp at this
      exact ⟨_, by simp [binOp, Op.shift, show ¬ y < 0 by omega]; rfl, by simp [RV, RV1, RC, ishl]⟩
  case shr =>
    cases hc : chk sym (decide (0 ≤ y)) with
    | none => simp [hc] at h
    | some q =>
      simp [hc] at h; obtain ⟨rfl, rfl⟩ := h
      have := chk_sound hc hob
      simp at this
      exact ⟨_, by simp [binOp, Op.shift, show ¬ y < 0 by omega]; rfl, by simp [RV, RV1, RC, ishr]⟩
  all_goals
    have h2 := ifk_some h
    clear h
    obtain ⟨hk, h⟩ := h2
    subst hk
  case quo =>
    cases hc : chk sym (!(decide (y = 0))) with
    | none => simp [hc] at h
    | some q =>
      simp [hc] at h; obtain ⟨rfl, rfl⟩ := h
      have := chk_sound hc hob
      simp at this
      exact ⟨_, by simp [binOp, Op.intDiv, this]; rfl, by simp [RV, RV1, RC]⟩
  case rem =>
    cases hc : chk sym (!(decide (y = 0))) with
    | none => simp [hc] at h
    | some q =>
      simp [hc] at h; obtain ⟨rfl, rfl⟩ := h
      have := chk_sound hc hob
      simp at this
      exact ⟨_, by simp [binOp, Op.intDiv, this]; rfl, by simp [RV, RV1, RC]⟩
  all_goals
    simp at h
    obtain ⟨rfl, rfl⟩ := h
    refine ⟨_, by simp only [binOp, ne_eq, not_true_eq_false, if_false]; rfl, ?_⟩
    simp only [RV, RV1, RC, iand, ior, ixor, iandn]

/-- A number of 256 bits out of its parts. -/
def inR (x : Int) : Bool := decide (0 ≤ x) && decide (x < 18446744073709551616)
def ofLimbs (a b c d : Int) : BitVec 256 := BitVec.ofNat 256 (a.toNat + 2 ^ 64 * (b.toNat + 2 ^ 64 * (c.toNat + 2 ^ 64 * d.toNat)))
def uOf (sym : Bool) : AV → Option (List Bool × BitVec 256)
  | .u x => some ([], x)
  | .ints .u64 _ [a, b, c, d] => (chk sym (inR a && inR b && inR c && inR d)).map fun ob => (ob, ofLimbs a b c d)
  | _ => none

theorem limb_ofLimbs {a b c d : Int} (ha : inR a = true) (hb : inR b = true) (hc : inR c = true) (hd : inR d = true) :
    limb (ofLimbs a b c d) 0 = a ∧ limb (ofLimbs a b c d) 1 = b ∧ limb (ofLimbs a b c d) 2 = c ∧ limb (ofLimbs a b c d) 3 = d := by
  simp only [inR, Bool.and_eq_true, decide_eq_true_eq] at ha hb hc hd
  obtain ⟨x, rfl⟩ := Int.eq_ofNat_of_zero_le ha.1
  obtain ⟨y, rfl⟩ := Int.eq_ofNat_of_zero_le hb.1
  obtain ⟨z, rfl⟩ := Int.eq_ofNat_of_zero_le hc.1
  obtain ⟨t, rfl⟩ := Int.eq_ofNat_of_zero_le hd.1
  have h : (ofLimbs x y z t).toNat = x + 2 ^ 64 * (y + 2 ^ 64 * (z + 2 ^ 64 * t)) := by
    simp only [ofLimbs, BitVec.toNat_ofNat, Int.toNat_natCast]
    omega
  simp only [limb, h]
  omega

theorem uOf_sound {sym : Bool} {v : AV} {x : BitVec 256} {ob : List Bool} (h : uOf sym v = some (ob, x)) (hob : ∀ b ∈ ob, b = true) {cs : List Value} (hr : RC ρ v cs) : cs = limbs x := by
  unfold uOf at h
  split at h <;> try contradiction
  · simp at h; obtain ⟨rfl, rfl⟩ := h
    simpa only [RC] using hr
  · rename_i n a b c d
    cases hc : chk sym (inR a && inR b && inR c && inR d) with
    | none => simp [hc] at h
    | some q =>
      simp [hc] at h; obtain ⟨rfl, rfl⟩ := h
      have := chk_sound hc hob
      simp only [Bool.and_eq_true] at this
      obtain ⟨⟨⟨h1, h2⟩, h3⟩, h4⟩ := this
      obtain ⟨e1, e2, e3, e4⟩ := limb_ofLimbs h1 h2 h3 h4
      simp only [RC] at hr
      rw [hr.2]
      simp [limbs, e1, e2, e3, e4]

theorem limbs_inj {x y : BitVec 256} (h : limbs x = limbs y) : x = y := by
  simp only [limbs, List.cons.injEq, Value.int.injEq, true_and, and_true] at h
  obtain ⟨h0, h1, h2, h3⟩ := h
  simp only [limb] at h0 h1 h2 h3
  apply BitVec.eq_of_toNat_eq
  have hx := x.isLt
  have hy := y.isLt
  omega

def intsAlike (P : Program) (T : Nat) : Option (Nat × IntKind) :=
  match P.underlying T with
  | some (.array n e) => match P.underlying e with
    | some (.int k) => match Nat.beq (P.cellsOf e) 1 with
      | true => some (n, k)
      | false => none
    | _ => none
  | _ => none

theorem eqItems_ints (w : World) {d e : Nat} {k : IntKind} (he : P.underlying e = some (.int k)) (hs : P.cellsOf e = 1) (l m : List Int) : ∀ (is : List Nat), (∀ i ∈ is, i < l.length ∧ i < m.length) →
    (Op.eqItems (d + 1) e 1 (l.map (Value.int k)).toArray (m.map (Value.int k)).toArray is).run P w = .ok (is.all fun i => l.getD i 0 == m.getD i 0) w
  | [], _ => by simp [Op.eqItems]
  | i :: is, h => by
    obtain ⟨h1, h2⟩ := h i (by simp)
    have ih := eqItems_ints w (d := d) he hs l m is (fun j hj => h j (by simp [hj]))
    have hagg : isAggT P e = false := by simp [isAggT, he]
    have p1 : (part e (l.map (Value.int k)).toArray (i * 1)).run P w = .ok (.int k (l.getD i 0)) w := by
      simp [part, run_isAgg' he, hagg, h1]
    have p2 : (part e (m.map (Value.int k)).toArray (i * 1)).run P w = .ok (.int k (m.getD i 0)) w := by
      simp [part, run_isAgg' he, hagg, h2]
    simp only [Op.eqItems, Sem.run_bind, p1, p2, Result.andThen_ok, run_equalIn_int w d e k k _ _ he, List.all_cons]
    cases hc : (l.getD i 0 == m.getD i 0)
    · simp
    · simp only [Bool.not_true, Bool.false_eq_true, if_false, Bool.true_and]; exact ih

theorem all_range_beq (l m : List Int) (n : Nat) (h1 : l.length = n) (h2 : m.length = n) : ((List.range n).all fun i => l.getD i 0 == m.getD i 0) = (l == m) := by
  rw [Bool.eq_iff_iff]
  simp only [List.all_eq_true, List.mem_range, beq_iff_eq]
  constructor
  · intro h
    apply List.ext_getElem (by omega)
    intro i hi hi'
    have := h i (by omega)
    simpa [List.getD, hi, hi'] using this
  · rintro rfl i _; rfl

theorem equal_ints {T n : Nat} {k : IntKind} (hT : intsAlike P T = some (n, k)) (l m : List Int) (h1 : l.length = n) (h2 : m.length = n) :
    (Op.equal T (.agg (l.map (Value.int k)).toArray) (.agg (m.map (Value.int k)).toArray)).run P w = .ok (l == m) w := by
  unfold intsAlike at hT
  split at hT <;> try contradiction
  rename_i n' e hu
  split at hT <;> try contradiction
  rename_i k' he
  split at hT <;> try contradiction
  rename_i hs
  simp at hT; obtain ⟨rfl, rfl⟩ := hT
  have hs := Nat.eq_of_beq_eq_true hs
  obtain ⟨i, hi⟩ := info_of_underlying he
  rw [Op.equal, show Op.maxDepth = 9998 + 1 + 1 from rfl, run_equalIn_array w (9998 + 1) _ _ hu hi, hs, eqItems_ints w he hs l m _ (fun i hi => by have := List.mem_range.1 hi; omega), all_range_beq l m _ h1 h2]
end
end Go.Proofs.Ytglcjmnkhmdlhaa

/- The operations of a symbolic run, one by one: the rest. -/
namespace Go.Proofs.Ytglcjmnkhmdlhaa
open Go Go.RowKit

section
variable {P : Program} {ρ : Env} {H : Heap} {B : Fr} {W w : World} {ss : List AV} {a : Act} {o : Oper} {E : Eff}

/-- Equality of two values of a type. -/
def eqAV (P : Program) (sym : Bool) (T : Nat) (x y : AV) : Option (List Bool × Bool) :=
  match P.underlying T with
  | some .bool => match x, y with
    | .bool p, .bool q => some ([], p == q)
    | _, _ => none
  | some (.array _ _) => match intsAlike P T with
    | some (n, k) => match kindEq k .u64 && Nat.beq n 4 with
      | true => match uOf sym x, uOf sym y with
        | some (o1, p), some (o2, q) => some (o1 ++ o2, p == q)
        | _, _ => none
      | false => match x, y with
        | .ints k1 n1 l1, .ints k2 n2 l2 => match kindEq k k1 && kindEq k k2 && Nat.beq n n1 && Nat.beq n n2 with
          | true => some ([], l1 == l2)
          | false => none
        | _, _ => none
    | none => none
  | _ => none

theorem uOf_agg {sym : Bool} {v : AV} {p : BitVec 256} {ob : List Bool} (h : uOf sym v = some (ob, p)) : v.isAgg = true := by
  unfold uOf at h
  split at h <;> first | rfl | contradiction

theorem RV_u {sym : Bool} {v : AV} {p : BitVec 256} {ob : List Bool} {x : Value} (h : uOf sym v = some (ob, p)) (hob : ∀ b ∈ ob, b = true) (hv : RV ρ v x) : x = .agg (limbs p).toArray := by
  have ha := uOf_agg h
  have hc := hv.cells (by simp [ha])
  have := uOf_sound h hob hc
  cases v <;> simp only [AV.isAgg] at ha <;> try contradiction
  all_goals
    simp only [RV, RV1] at hv
  · rw [hv]; rw [hv] at this; simp [Value.cells] at this; rw [this]
  · obtain ⟨_, rfl⟩ := hv; simp [Value.cells] at this; rw [← this]

theorem limbs_beq (p q : BitVec 256) : ([limb p 0, limb p 1, limb p 2, limb p 3] == [limb q 0, limb q 1, limb q 2, limb q 3]) = (p == q) := by
  rw [Bool.eq_iff_iff]
  simp only [beq_iff_eq]
  constructor
  · intro h
    apply limbs_inj
    simp only [List.cons.injEq, and_true] at h
    obtain ⟨h0, h1, h2, h3⟩ := h
    simp only [limbs, h0, h1, h2, h3]
  · rintro rfl; rfl

theorem equalD_ints {T n : Nat} {k : IntKind} (hT : intsAlike P T = some (n, k)) (d : Nat) (l m : List Int) (h1 : l.length = n) (h2 : m.length = n) :
    (Op.equalIn (d + 1 + 1) T (.agg (l.map (Value.int k)).toArray) (.agg (m.map (Value.int k)).toArray)).run P w = .ok (l == m) w := by
  unfold intsAlike at hT
  split at hT <;> try contradiction
  rename_i n' e hu
  split at hT <;> try contradiction
  rename_i k' he
  split at hT <;> try contradiction
  rename_i hs
  simp at hT; obtain ⟨rfl, rfl⟩ := hT
  have hs := Nat.eq_of_beq_eq_true hs
  obtain ⟨i, hi⟩ := info_of_underlying he
  rw [run_equalIn_array w (d + 1) _ _ hu hi, hs, eqItems_ints w he hs l m _ (fun i hi => by have := List.mem_range.1 hi; omega), all_range_beq l m _ h1 h2]
theorem equal_u {T : Nat} (hT : intsAlike P T = some (4, .u64)) (d : Nat) (p q : BitVec 256) :
    (Op.equalIn (d + 1 + 1) T (.agg (limbs p).toArray) (.agg (limbs q).toArray)).run P w = .ok (p == q) w := by
  have := equalD_ints (w := w) hT d [limb p 0, limb p 1, limb p 2, limb p 3] [limb q 0, limb q 1, limb q 2, limb q 3] rfl rfl
  rw [limbs_beq] at this
  exact this

theorem eqAV_soundD {sym : Bool} {T : Nat} (d : Nat) {u v : AV} {x y : Value} {ob : List Bool} {r : Bool} (h : eqAV P sym T u v = some (ob, r)) (hob : ∀ b ∈ ob, b = true) (hu : RV ρ u x) (hv : RV ρ v y) :
    (Op.equalIn (d + 1 + 1) T x y).run P w = .ok r w := by
  unfold eqAV at h
  split at h <;> try contradiction
  · rename_i ht
    split at h <;> try contradiction
    simp at h; obtain ⟨rfl, rfl⟩ := h
    simp only [RV, RV1, RC] at hu hv
    simp at hu hv
    subst hu hv
    exact run_equalIn_bool w (d + 1) T _ _ ht
  · split at h <;> try contradiction
    rename_i n k hT
    split at h
    · rename_i hk
      simp only [Bool.and_eq_true] at hk
      have hk1 := kindEq_eq hk.1
      have hk2 := Nat.eq_of_beq_eq_true hk.2
      subst hk1 hk2
      split at h <;> try contradiction
      rename_i o1 p o2 q h1 h2
      simp at h; obtain ⟨rfl, rfl⟩ := h
      rw [RV_u h1 (fun b hb => hob b (by simp [hb])) hu, RV_u h2 (fun b hb => hob b (by simp [hb])) hv]
      exact equal_u hT d p q
    · split at h <;> try contradiction
      split at h <;> try contradiction
      rename_i hk
      simp only [Bool.and_eq_true] at hk
      obtain ⟨⟨⟨a1, a2⟩, a3⟩, a4⟩ := hk
      have a1 := kindEq_eq a1
      have a2 := kindEq_eq a2
      have a3 := Nat.eq_of_beq_eq_true a3
      have a4 := Nat.eq_of_beq_eq_true a4
      subst a1 a3
      subst a2 a4
      simp at h; obtain ⟨rfl, rfl⟩ := h
      simp only [RV, RV1] at hu hv
      obtain ⟨e1, rfl⟩ := hu
      obtain ⟨e2, rfl⟩ := hv
      exact equalD_ints hT d _ _ e1 e2

def strOp (sym : Bool) (op : BinOp) (x y : ByteArray) : Option (List Bool × AV) :=
  match op with
  | .add => (chk sym (Nat.ble (x.size + y.size) 9223372036854775807)).map fun ob => (ob, .str (x ++ y))
  | .eql => some ([], .bool (x.toList == y.toList))
  | .neq => some ([], .bool (!(x.toList == y.toList)))
  | _ => none

theorem strOp_sound {sym : Bool} {op : BinOp} {x y : ByteArray} {T : Nat} {ob : List Bool} {v : AV} (h : strOp sym op x y = some (ob, v)) (hob : ∀ b ∈ ob, b = true) :
    ∃ z, (binOp op T (.string x) (.string y)).run P w = .ok z w ∧ RV ρ v z := by
  cases op <;> simp only [strOp] at h <;> try contradiction
  case add =>
    cases hc : chk sym (Nat.ble (x.size + y.size) 9223372036854775807) with
    | none => simp [hc] at h
    | some q =>
      simp [hc] at h; obtain ⟨rfl, rfl⟩ := h
      have := Nat.le_of_ble_eq_true (chk_sound hc hob)
      refine ⟨.string (x ++ y), ?_, by simp [RV, RV1, RC]⟩
      simp only [binOp, Op.stringOp]
      rw [if_neg (by simp [IntKind.max, IntKind.signed, IntKind.bits]; omega)]
      rfl
  all_goals
    simp at h
    obtain ⟨rfl, rfl⟩ := h
    exact ⟨_, rfl, by simp [RV, RV1, RC]⟩

/-- Two operands that have places or none: against nil. -/
def nilOp (P : Program) (op : BinOp) (T : Nat) (x y : AV) : Option AV :=
  match op with
  | .eql => match P.underlying T with
    | some (.slice _) => match x, y with
      | .sl _ _ _ _, .nilsl => some (.bool false)
      | .nilsl, .nilsl => some (.bool true)
      | _, _ => none
    | some (.pointer _) => match x, y with
      | .ptr _ _, .nilp => some (.bool false)
      | .nilp, .nilp => some (.bool true)
      | _, _ => none
    | _ => none
  | .neq => match P.underlying T with
    | some (.slice _) => match x, y with
      | .sl _ _ _ _, .nilsl => some (.bool true)
      | .nilsl, .nilsl => some (.bool false)
      | _, _ => none
    | some (.pointer _) => match x, y with
      | .ptr _ _, .nilp => some (.bool true)
      | .nilp, .nilp => some (.bool false)
      | _, _ => none
    | _ => none
  | _ => none

theorem RV_int {k : IntKind} {n : Int} {x : Value} (h : RV ρ (.int k n) x) : x = .int k n := by
  simp only [RV, RV1, RC] at h; simpa using h
theorem RV_str {s : ByteArray} {x : Value} (h : RV ρ (.str s) x) : x = .string s := by
  simp only [RV, RV1, RC] at h; simpa using h
theorem RV_bool {b : Bool} {x : Value} (h : RV ρ (.bool b) x) : x = .bool b := by
  simp only [RV, RV1, RC] at h; simpa using h

theorem eqAV_kind {sym : Bool} {T : Nat} {u v : AV} {x y : Value} {ob : List Bool} {r : Bool} (h : eqAV P sym T u v = some (ob, r)) (hu : RV ρ u x) (hv : RV ρ v y) :
    (∃ p q, x = .bool p ∧ y = .bool q) ∨ (∃ p q, x = .agg p ∧ y = .agg q) := by
  have agg : ∀ {u : AV} {x : Value}, u.isAgg = true → RV ρ u x → ∃ p, x = .agg p := by
    intro u x hu hx
    cases u <;> simp only [AV.isAgg] at hu <;> try contradiction
    all_goals simp only [RV, RV1] at hx
    · exact ⟨_, hx⟩
    · exact ⟨_, hx.2⟩
    · obtain ⟨cs, _, e⟩ := hx; exact ⟨_, e⟩
  unfold eqAV at h
  split at h <;> try contradiction
  · split at h <;> try contradiction
    exact .inl ⟨_, _, RV_bool hu, RV_bool hv⟩
  · split at h <;> try contradiction
    split at h
    · split at h <;> try contradiction
      rename_i h1 h2
      obtain ⟨p, hp⟩ := agg (uOf_agg h1) hu
      obtain ⟨q, hq⟩ := agg (uOf_agg h2) hv
      exact .inr ⟨p, q, hp, hq⟩
    · split at h <;> try contradiction
      obtain ⟨p, hp⟩ := agg rfl hu
      obtain ⟨q, hq⟩ := agg rfl hv
      exact .inr ⟨p, q, hp, hq⟩

theorem eqGuard_free {op : BinOp} {T : Nat} {x y : Operand} {p q : Value} (h : (∃ u v, p = .bool u ∧ q = .bool v) ∨ (∃ u v, p = .agg u ∧ q = .agg v)) (hg : P.eqGuardType P.depth T = false) :
    (eqGuard op T x y p q).run P w = .ok () w := by
  rcases h with ⟨u, v, rfl, rfl⟩ | ⟨u, v, rfl, rfl⟩
  · unfold eqGuard; split <;> rfl
  · exact run_eqGuard_agg w op T x y u v hg

end
end Go.Proofs.Ytglcjmnkhmdlhaa

/- The operations of a symbolic run, one by one: places and parts. -/
namespace Go.Proofs.Ytglcjmnkhmdlhaa
open Go Go.RowKit

section
variable {P : Program} {ρ : Env} {H : Heap} {B : Fr} {W w : World} {ss : List AV} {a : Act} {o : Oper} {E : Eff}

def effMove (P : Program) (ss : List AV) (T : Nat) (x : Operand) : Option Eff := some { v := evT P ss T x }

theorem effMove_sound {T : Nat} {x : Operand} (hr : Rep ρ H B W w) (hsl : SlotsR ρ ss a.tmps) (ho : o.op = .move x ∨ o.op = .assign x) (h : effMove P ss T x = some E) : Gives P ρ H B W w (execOp a.eval o) E := by
  simp [effMove] at h; subst h
  exact Gives.pure hr (by rcases ho with ho | ho <;> simp [execOp, ho]) (evT_RV hsl T x)

def effPick (P : Program) (ss : List AV) (T : Nat) (c x y : Operand) : Option Eff :=
  match evS ss c with
  | .bool b => match b with
    | true => some { v := evT P ss T x }
    | false => some { v := evT P ss T y }
  | _ => none

theorem effPick_sound {T : Nat} {c x y : Operand} (hr : Rep ρ H B W w) (hsl : SlotsR ρ ss a.tmps) (ho : o.op = .pick c x y) (h : effPick P ss T c x y = some E) : Gives P ρ H B W w (execOp a.eval o) E := by
  unfold effPick at h
  have hc := evS_RV hsl c
  split at h <;> try contradiction
  rename_i b e
  rw [e] at hc
  have hc := RV_bool hc
  split at h <;> simp at h <;> subst h
  · exact Gives.pure hr (by simp [execOp, ho, hc, asBool]) (evT_RV hsl T x)
  · exact Gives.pure hr (by simp [execOp, ho, hc, asBool]) (evT_RV hsl T y)

def effNilCheck (ss : List AV) (x : Operand) : Option Eff :=
  match evS ss x with
  | .ptr k p => some { v := .ptr k p }
  | .fn f cap => some { v := .fn f cap }
  | _ => none

theorem effNilCheck_sound {x : Operand} (hr : Rep ρ H B W w) (hsl : SlotsR ρ ss a.tmps) (ho : o.op = .nilCheck x) (h : effNilCheck ss x = some E) : Gives P ρ H B W w (execOp a.eval o) E := by
  unfold effNilCheck at h
  have hx := evS_RV hsl x
  split at h <;> try contradiction
  · rename_i k p e
    rw [e] at hx
    simp at h; subst h
    obtain ⟨ad, ea, _⟩ := RV_ptr hx
    exact Gives.pure (x := a.eval x) hr (by simp [execOp, ho, ea]) hx
  · rename_i f cap e
    rw [e] at hx
    simp at h; subst h
    have hx' := hx
    simp only [RV, RV1, RC] at hx'
    obtain ⟨xs, _, e2⟩ := hx'
    simp at e2
    exact Gives.pure (x := a.eval x) hr (by simp [execOp, ho, e2]) hx

def effUn (ss : List AV) (op : UnOp) (x : Operand) : Option Eff :=
  match op, evS ss x with
  | .neg, .int k n => some { v := .int k (k.wrap (0 - n)) }
  | .xor, .int k n => some { v := .int k (ixor k (if k.signed then -1 else k.max) n) }
  | .not, .bool b => some { v := .bool (!b) }
  | _, _ => none

theorem effUn_sound {op : UnOp} {T : Nat} {x : Operand} (hr : Rep ρ H B W w) (hsl : SlotsR ρ ss a.tmps) (ho : o.op = .unOp op T x) (h : effUn ss op x = some E) : Gives P ρ H B W w (execOp a.eval o) E := by
  unfold effUn at h
  have hx := evS_RV hsl x
  split at h <;> try contradiction
  · rename_i k n e
    rw [e] at hx; simp at h; subst h
    exact Gives.pure (x := .int k (k.wrap (0 - n))) hr (by simp [execOp, ho, RV_int hx, Op.unary, Op.intArith]) (by simp [RV, RV1, RC])
  · rename_i k n e
    rw [e] at hx; simp at h; subst h
    exact Gives.pure (x := .int k (ixor k (if k.signed then -1 else k.max) n)) hr (by simp only [execOp, ho, RV_int hx, Op.unary, Op.intBits, ixor]; rfl) (by simp [RV, RV1, RC])
  · rename_i b e
    rw [e] at hx; simp at h; subst h
    exact Gives.pure (x := .bool !b) hr (by simp [execOp, ho, RV_bool hx, Op.unary]) (by simp [RV, RV1, RC])

/-- The bytes of a row of numbers. -/
def bytesOf (l : List Int) : ByteArray := ⟨(l.map fun n => UInt8.ofNat n.toNat).toArray⟩

def effConvert (P : Program) (sym : Bool) (ss : List AV) (lk : Nat → Option Blk) (S T : Nat) (x : Operand) : Option Eff :=
  match P.underlying S, P.underlying T, evT P ss S x with
  | some (.int _), some (.int k), .int _ n => some { v := .int k (k.wrap n) }
  | some .string, some .string, .str s => some { v := .str s }
  | some (.slice e), some .string, .nilsl => match P.underlying e with
    | some (.int .u8) => some { v := .str .empty }
    | _ => none
  | some (.slice e), some .string, .sl k p n _ => match P.underlying e, lk k with
    | some (.int .u8), some b => match b.v, p with
      | .ints .u8 m l, [(0, lo, 1)] => (chk sym (Nat.ble (lo + n) m)).map fun ob => { v := .str (bytesOf ((l.drop lo).take n)), ob := ob, rd := [k] }
      | _, _ => none
    | _, _ => none
  | _, _, _ => none

theorem run_bytesToString_list (w : World) (b lo n cap : Nat) (l : List Int) (c1 c3 : List Value) (T : Nat) (mk : Nat × Nat) (h : w.heap[b]? = some (.cells (c1 ++ l.map (Value.int .u8) ++ c3).toArray T mk))
    (ho : c1.length = lo) (hn : l.length = n) : (Conv.bytesToString (.slice (some ⟨b, lo, none⟩) n cap)).run P w = .ok (.string (bytesOf l)) w := by
  have hl := run_load_part (P := P) (p := [(0, lo, 1)]) h (by simp [off, ho])
  simp only [off, Nat.zero_add, Nat.mul_one, Nat.add_zero, List.length_map, hn] at hl
  rw [run_bytesToString w _ n cap l hl]
  congr 2
  have key : ∀ (l : List Int) (s : ByteArray), (l.foldl (fun r n => r.push (UInt8.ofNat n.toNat)) s).data.toList = s.data.toList ++ l.map fun n => UInt8.ofNat n.toNat := by
    intro l
    induction l with
    | nil => intro s; simp
    | cons c l ih => intro s; simp only [List.foldl_cons, ih, List.map_cons]; simp
  apply ByteArray.ext
  apply Array.toList_inj.1
  rw [key]
  simp [bytesOf]

theorem effConvert_sound {sym : Bool} {S T : Nat} {x : Operand} (hr : Rep ρ H B W w) (hsl : SlotsR ρ ss a.tmps) (ho : o.op = .convert S T x) (h : effConvert P sym ss (hget H) S T x = some E) (hob : ∀ b ∈ E.ob, b = true) : Gives P ρ H B W w (execOp a.eval o) E := by
  unfold effConvert at h
  have hx := evT_RV (P := P) hsl S x
  split at h <;> try contradiction
  · rename_i k' k k2 n hS hT e
    rw [e] at hx; simp at h; subst h
    exact Gives.pure (x := .int k (k.wrap n)) hr (by simp [execOp, ho, RV_int hx, convert, run_underlying' hS, run_underlying' hT, Conv.intToInt]) (by simp [RV, RV1, RC])
  · rename_i s hS hT e
    rw [e] at hx; simp at h; subst h
    exact Gives.pure (x := .string s) hr (by simp [execOp, ho, RV_str hx, convert, run_underlying' hS, run_underlying' hT]) (by simp [RV, RV1, RC])
  · rename_i e hS hT ev
    split at h <;> try contradiction
    rename_i he
    rw [ev] at hx; simp at h; subst h
    simp only [RV, RV1, RC] at hx
    simp at hx
    exact Gives.pure (x := .string .empty) hr (by simp [execOp, ho, hx, convert, run_underlying' hS, run_underlying' hT, run_underlying' he, Conv.bytesToString]) (by simp [RV, RV1, RC])
  · rename_i e k p n cap hS hT ev
    split at h <;> try contradiction
    rename_i b he hk
    split at h <;> try contradiction
    rename_i m l lo hbv
    rw [ev] at hx
    simp only [RV, RV1, RC] at hx
    obtain ⟨bb, hb, e2⟩ := hx
    simp at e2
    obtain ⟨bb', cs, mk, hb', hh, hrc, _⟩ := hr.blk k b hk
    rw [hb] at hb'; simp at hb'; subst hb'
    rw [hbv] at hrc
    simp only [RC] at hrc
    obtain ⟨hlen, rfl⟩ := hrc
    cases hc : chk sym (Nat.ble (lo + n) m) with
    | none => simp [hc] at h
    | some q =>
      simp [hc] at h; subst h
      have hle := Nat.le_of_ble_eq_true (chk_sound hc hob)
      have hsplit : l = l.take lo ++ ((l.drop lo).take n) ++ (l.drop lo).drop n := by
        rw [List.append_assoc, List.take_append_drop, List.take_append_drop]
      have hh2 : w.heap[bb]? = some (.cells ((l.take lo).map (Value.int .u8) ++ ((l.drop lo).take n).map (Value.int .u8) ++ ((l.drop lo).drop n).map (Value.int .u8)).toArray b.t mk) := by
        rw [hh]; congr 3; rw [← List.map_append, ← List.map_append, ← hsplit]
      have hrun := run_bytesToString_list (P := P) w bb lo n cap ((l.drop lo).take n) _ _ _ _ hh2 (by simp; omega) (by simp; omega)
      refine Gives.pure (x := .string (bytesOf ((l.drop lo).take n))) hr ?_ (by simp [RV, RV1, RC])
      simp only [off, Nat.zero_add, Nat.mul_one, Nat.add_zero] at e2
      simp [execOp, ho, e2, convert, run_underlying' hS, run_underlying' hT, run_underlying' he, hrun]

def effExtract (ss : List AV) (x : Operand) (i : Nat) : Option Eff :=
  match evS ss x with
  | .tup l => match l[i]? with
    | some v => some { v := v }
    | none => none
  | _ => none

theorem RV1s_get : ∀ (l : List AV) (xs : List Value) (i : Nat) (v : AV), RV1s ρ l xs → l[i]? = some v → ∃ x, xs[i]? = some x ∧ RV1 ρ v x
  | [], xs, i, v, _, hi => by simp at hi
  | c :: l, xs, 0, v, h, hi => by
    simp only [RV1s] at h
    obtain ⟨x, ys, h1, _, rfl⟩ := h
    simp at hi; subst hi
    exact ⟨x, rfl, h1⟩
  | c :: l, xs, i + 1, v, h, hi => by
    simp only [RV1s] at h
    obtain ⟨x, ys, _, h2, rfl⟩ := h
    obtain ⟨y, hy, hv⟩ := RV1s_get l ys i v h2 (by simpa using hi)
    exact ⟨y, by simpa using hy, hv⟩

theorem RV_of_RV1 {v : AV} {x : Value} (h : RV1 ρ v x) : RV ρ v x := by
  cases v <;> simp only [RV, RV1] at * <;> exact h

theorem effExtract_sound {x : Operand} {i : Nat} (hr : Rep ρ H B W w) (hsl : SlotsR ρ ss a.tmps) (ho : o.op = .extract x i) (h : effExtract ss x i = some E) : Gives P ρ H B W w (execOp a.eval o) E := by
  unfold effExtract at h
  have hx := evS_RV hsl x
  split at h <;> try contradiction
  rename_i l e
  rw [e] at hx
  split at h <;> try contradiction
  rename_i v hv
  simp at h; subst h
  simp only [RV] at hx
  obtain ⟨xs, h1, e2⟩ := hx
  obtain ⟨y, hy, hyv⟩ := RV1s_get l xs i v h1 hv
  refine Gives.pure (x := y) hr ?_ (RV_of_RV1 hyv)
  simp [execOp, ho, e2, Instr.extract, hy]

/-- A place further on in a row. -/
def bump (n : Nat) : Path → Option Path
  | [] => none
  | [(b, i, s)] => some [(b, i + n, s)]
  | q :: p => (bump n p).map (q :: ·)

def lastS : Path → Nat
  | [] => 0
  | [(_, _, s)] => s
  | _ :: p => lastS p

theorem off_bump (n : Nat) : ∀ (p q : Path), bump n p = some q → off q = off p + n * lastS p ∧ lastS q = lastS p
  | [], q, h => by simp [bump] at h
  | [(b, i, s)], q, h => by simp [bump] at h; subst h; simp [off, lastS, Nat.add_mul]; omega
  | (b, i, s) :: r :: p, q, h => by
    simp only [bump] at h
    cases hb : bump n (r :: p) with
    | none => simp [hb] at h
    | some q' =>
      simp [hb] at h; subst h
      obtain ⟨h1, h2⟩ := off_bump n (r :: p) q' hb
      have hq : q' ≠ [] := by
        rintro rfl
        cases p with
        | nil => simp [bump] at hb
        | cons r2 p => simp [bump] at hb
      constructor
      · simp only [off, h1, lastS]; omega
      · cases q' with
        | nil => exact absurd rfl hq
        | cons y q' => simpa [lastS] using h2

def effIndexAddr (P : Program) (sym : Bool) (ss : List AV) (T : Nat) (x ix : Operand) : Option Eff :=
  match evS ss ix with
  | .int _ i => match P.underlying T with
    | some (.array n e) => match evS ss x, P.underlying e with
      | .ptr k p, some _ => (chk sym (decide (0 ≤ i) && decide (i < n))).map fun ob => { v := .ptr k (p ++ [(0, i.toNat, P.cellsOf e)]), ob := ob }
      | _, _ => none
    | some (.slice e) => match evS ss x, P.underlying e with
      | .sl k p n _, some _ => match Nat.beq (lastS p) (P.cellsOf e), bump i.toNat p with
        | true, some q => (chk sym (decide (0 ≤ i) && decide (i < n))).map fun ob => { v := .ptr k q, ob := ob }
        | _, _ => none
      | _, _ => none
    | _ => none
  | _ => none

theorem addr_add (b o n : Nat) : (⟨b, o, none⟩ : Addr).add n = ⟨b, o + n, none⟩ := by unfold Addr.add; split <;> simp_all

theorem effIndexAddr_sound {sym : Bool} {T : Nat} {x ix : Operand} (hr : Rep ρ H B W w) (hsl : SlotsR ρ ss a.tmps) (ho : o.op = .indexAddr T x ix) (h : effIndexAddr P sym ss T x ix = some E) (hob : ∀ b ∈ E.ob, b = true) : Gives P ρ H B W w (execOp a.eval o) E := by
  unfold effIndexAddr at h
  have hi := evS_RV hsl ix
  have hx := evS_RV hsl x
  split at h <;> try contradiction
  rename_i ki i ei
  rw [ei] at hi
  have hi := RV_int hi
  split at h <;> try contradiction
  · rename_i n e hT
    split at h <;> try contradiction
    rename_i k p d ex he
    rw [ex] at hx
    cases hc : chk sym (decide (0 ≤ i) && decide (i < n)) with
    | none => simp [hc] at h
    | some q =>
      simp [hc] at h; subst h
      have := chk_sound hc hob
      simp only [Bool.and_eq_true, decide_eq_true_eq] at this
      simp only [RV, RV1, RC] at hx
      obtain ⟨b, hb, e2⟩ := hx
      simp at e2
      refine Gives.pure (x := .pointer (some ⟨b, off p + i.toNat * P.cellsOf e, none⟩)) hr ?_ ?_
      · simp [execOp, ho, hi, e2, Instr.indexAt, asIntOf, run_underlying' hT, Instr.sureAddr, this, run_sizeOf' he, addr_add]
      · simp only [RV, RV1, RC]
        exact ⟨b, hb, by simp [off_append, off]⟩
  · rename_i e hT
    split at h <;> try contradiction
    rename_i k p n cap d ex he
    split at h <;> try contradiction
    rename_i q hls hbm
    rw [ex] at hx
    cases hc : chk sym (decide (0 ≤ i) && decide (i < n)) with
    | none => simp [hc] at h
    | some q =>
      simp [hc] at h; subst h
      have := chk_sound hc hob
      simp only [Bool.and_eq_true, decide_eq_true_eq] at this
      simp only [RV, RV1, RC] at hx
      obtain ⟨b, hb, e2⟩ := hx
      simp at e2
      have hls := Nat.eq_of_beq_eq_true hls
      obtain ⟨ho1, _⟩ := off_bump _ _ _ hbm
      rw [hls] at ho1
      refine Gives.pure (x := .pointer (some ⟨b, off p + i.toNat * P.cellsOf e, none⟩)) hr ?_ ?_
      · simp [execOp, ho, hi, e2, Instr.indexAt, asIntOf, run_underlying' hT, this, run_sizeOf' he, addr_add]
      · simp only [RV, RV1, RC]
        exact ⟨b, hb, by rw [ho1]⟩

def effFieldAddr (P : Program) (ss : List AV) (S : Nat) (x : Operand) (f : Nat) : Option Eff :=
  match P.underlying S with
  | some (.struct fs) => match fs.toList[f]? with
    | some fd => match P.underlying fd.type, Nat.beq (P.cellsOf fd.type) 0, evS ss x with
      | some _, false, .ptr k p => some { v := .ptr k (p ++ [(fd.offset, f, 0)]) }
      | _, _, _ => none
    | none => none
  | _ => none

theorem effFieldAddr_sound {S : Nat} {x : Operand} {f : Nat} (hr : Rep ρ H B W w) (hsl : SlotsR ρ ss a.tmps) (ho : o.op = .fieldAddr S x f) (h : effFieldAddr P ss S x f = some E) : Gives P ρ H B W w (execOp a.eval o) E := by
  unfold effFieldAddr at h
  have hx := evS_RV hsl x
  split at h <;> try contradiction
  rename_i fs hS
  split at h <;> try contradiction
  rename_i fd hf
  split at h <;> try contradiction
  rename_i d k p hd hz ex
  simp at h; subst h
  rw [ex] at hx
  simp only [RV, RV1, RC] at hx
  obtain ⟨b, hb, e2⟩ := hx
  simp at e2
  have hz : P.cellsOf fd.type ≠ 0 := by intro h0; rw [h0] at hz; simp at hz
  have hf : fs[f]? = some fd := by simpa using hf
  refine Gives.pure (x := .pointer (some ⟨b, off p + fd.offset, none⟩)) hr ?_ ?_
  · simp [execOp, ho, e2, Instr.fieldAt, run_underlying' hS, hf, Instr.sureAddr, fieldPlace, run_sizeOf' hd, hz, addr_add]
  · simp only [RV, RV1, RC]
    exact ⟨b, hb, by simp [off_append, off]⟩

/-- A part of a value in a slot. -/
def effPart (P : Program) (sym : Bool) (T : Nat) (v : AV) (p : Path) : Option Eff :=
  match v.isAgg, P.underlying T, v.get sym p with
  | true, some _, some (ob, c) => match isAggT P T with
    | true => match c.isAgg && Nat.beq c.size (P.cellsOf T) with
      | true => some { v := c, ob := ob }
      | false => none
    | false => match c.one with
      | true => some { v := c, ob := ob }
      | false => none
  | _, _, _ => none

theorem RV_agg {v : AV} {x : Value} (h : RV ρ v x) (ha : v.isAgg = true) : ∃ cs : List Value, x = .agg cs.toArray ∧ RC ρ v cs := by
  have hc := h.cells (by simp [ha])
  cases v <;> simp only [AV.isAgg] at ha <;> try contradiction
  all_goals simp only [RV, RV1] at h
  · subst h; exact ⟨_, rfl, by simpa [Value.cells] using hc⟩
  · obtain ⟨_, rfl⟩ := h; exact ⟨_, rfl, by simpa [Value.cells] using hc⟩
  · obtain ⟨cs, h1, rfl⟩ := h; exact ⟨cs, rfl, by simpa [RC] using h1⟩

theorem effPart_sound {sym : Bool} {T : Nat} {v : AV} {x : Value} {p : Path} (hv : RV ρ v x) (h : effPart P sym T v p = some E) (hob : ∀ b ∈ E.ob, b = true) :
    ∃ (cs : Array Value) (y : Value), x = .agg cs ∧ (part T cs (off p)).run P w = .ok y w ∧ RV ρ E.v y ∧ E.wr = none := by
  unfold effPart at h
  split at h <;> try contradiction
  rename_i d ob c ha hd hg
  obtain ⟨cs, rfl, hrc⟩ := RV_agg hv ha
  split at h
  · rename_i ht
    split at h <;> try contradiction
    rename_i hc
    simp only [Bool.and_eq_true] at hc
    simp at h; subst h
    obtain ⟨c1, c2, c3, rfl, hl, hcc⟩ := AV.get_sound sym p _ _ _ _ hrc hg hob
    have hsz := RC.length _ _ hcc
    refine ⟨_, .agg c2.toArray, rfl, ?_, RV.of_cells hcc hc.1, rfl⟩
    have hk := Nat.eq_of_beq_eq_true hc.2
    simp only [part, Sem.run_bind, run_isAgg' hd, Result.andThen_ok, ht, if_true, run_sizeOf' hd, Sem.run_pure, ← hk, ← hsz, ← hl]
    congr 2
    simp
  · rename_i ht
    split at h <;> try contradiction
    rename_i hc
    simp at h; subst h
    obtain ⟨c1, c2, c3, rfl, hl, hcc⟩ := AV.get_sound sym p _ _ _ _ hrc hg hob
    obtain ⟨y, rfl, hy, _⟩ := RV.of_cell hcc hc
    refine ⟨_, y, rfl, ?_, hy, rfl⟩
    simp [part, run_isAgg' hd, ht, ← hl]

def effField (P : Program) (sym : Bool) (ss : List AV) (S : Nat) (x : Operand) (f : Nat) : Option Eff :=
  match P.underlying S with
  | some (.struct fs) => match fs.toList[f]? with
    | some fd => effPart P sym fd.type (evT P ss S x) [(fd.offset, f, 0)]
    | none => none
  | _ => none

theorem effField_sound {sym : Bool} {S : Nat} {x : Operand} {f : Nat} (hr : Rep ρ H B W w) (hsl : SlotsR ρ ss a.tmps) (ho : o.op = .field S x f) (h : effField P sym ss S x f = some E) (hob : ∀ b ∈ E.ob, b = true) : Gives P ρ H B W w (execOp a.eval o) E := by
  unfold effField at h
  split at h <;> try contradiction
  rename_i fs hS
  split at h <;> try contradiction
  rename_i fd hf
  obtain ⟨cs, y, e, hp, hy, hw⟩ := effPart_sound (w := w) (evT_RV (P := P) hsl S x) h hob
  have hf : fs[f]? = some fd := by simpa using hf
  simp only [off, Nat.mul_zero, Nat.add_zero] at hp
  have : E = { v := E.v, ob := E.ob, rd := E.rd } := by cases E; simp_all
  rw [this]
  refine Gives.pure (x := y) hr ?_ hy
  simp [execOp, ho, Instr.field, run_underlying' hS, hf, e, asAgg, hp]

def byteAt (s : ByteArray) (i : Nat) : Int := ((s.data.toList.getD i 0).toNat : Int)

def effIndex (P : Program) (sym : Bool) (ss : List AV) (T : Nat) (x ix : Operand) : Option Eff :=
  match evS ss ix with
  | .int _ i => match P.underlying T with
    | some (.array n e) => match chk sym (decide (0 ≤ i) && decide (i < n)), effPart P sym e (evT P ss T x) [(0, i.toNat, P.cellsOf e)], P.underlying e with
      | some ob, some F, some _ => some { v := F.v, ob := ob ++ F.ob }
      | _, _, _ => none
    | some .string => match evT P ss T x with
      | .str s => (chk sym (decide (0 ≤ i) && decide (i < s.size))).map fun ob => { v := .int .u8 (byteAt s i.toNat), ob := ob }
      | _ => none
    | _ => none
  | _ => none

theorem effIndex_sound {sym : Bool} {T : Nat} {x ix : Operand} (hr : Rep ρ H B W w) (hsl : SlotsR ρ ss a.tmps) (ho : o.op = .index T x ix) (h : effIndex P sym ss T x ix = some E) (hob : ∀ b ∈ E.ob, b = true) : Gives P ρ H B W w (execOp a.eval o) E := by
  unfold effIndex at h
  have hi := evS_RV hsl ix
  have hx := evT_RV (P := P) hsl T x
  split at h <;> try contradiction
  rename_i ki i ei
  rw [ei] at hi
  have hi := RV_int hi
  split at h <;> try contradiction
  · rename_i n e hT
    split at h <;> try contradiction
    rename_i ob F d hc hF he
    simp at h; subst h
    have := chk_sound hc (fun b hb => hob b (by simp [hb]))
    simp only [Bool.and_eq_true, decide_eq_true_eq] at this
    obtain ⟨cs, y, e2, hp, hy, hw⟩ := effPart_sound (w := w) hx hF (fun b hb => hob b (by simp [hb]))
    simp only [off, Nat.zero_add, Nat.add_zero] at hp
    refine Gives.pure (x := y) hr ?_ hy
    simp [execOp, ho, hi, e2, Instr.index, asIntOf, run_underlying' hT, this, run_sizeOf' he, hp]
  · rename_i hT
    split at h <;> try contradiction
    rename_i s es
    rw [es] at hx
    cases hc : chk sym (decide (0 ≤ i) && decide (i < s.size)) with
    | none => simp [hc] at h
    | some q =>
      simp [hc] at h; subst h
      have := chk_sound hc hob
      simp only [Bool.and_eq_true, decide_eq_true_eq] at this
      have hlt : i.toNat < s.size := by omega
      refine Gives.pure (x := .int .u8 (byteAt s i.toNat)) hr ?_ (by simp [RV, RV1, RC])
      have hb : s[i.toNat]? = some s[i.toNat] := by simp [hlt]
      have hb2 : byteAt s i.toNat = (s[i.toNat].toNat : Int) := by
        unfold byteAt
        have : s.data.toList.getD i.toNat 0 = s[i.toNat] := by
          simp only [List.getD]
          rw [List.getElem?_eq_getElem (by simpa using hlt)]
          rfl
        rw [this]
      simp [execOp, ho, hi, RV_str hx, Instr.index, asIntOf, run_underlying' hT, this.1, hb, hb2]

def effMakeFunc (ss : List AV) (f : Fn) (first captured : List Operand) : Option Eff :=
  match f, first with
  | .func f, [] => match (captured.map (evS ss)).all AV.one with
    | true => some { v := .fn f (captured.map (evS ss)) }
    | false => none
  | _, _ => none

theorem effMakeFunc_sound {f : Fn} {first captured : Array Operand} (hr : Rep ρ H B W w) (hsl : SlotsR ρ ss a.tmps) (ho : o.op = .makeFunc f first captured) (h : effMakeFunc ss f first.toList captured.toList = some E) : Gives P ρ H B W w (execOp a.eval o) E := by
  unfold effMakeFunc at h
  split at h <;> try contradiction
  rename_i f hf
  split at h <;> try contradiction
  rename_i hall
  simp at h; subst h
  have hf : first = #[] := by cases first; simp_all
  have key : ∀ (l : List Operand), (l.map (evS ss)).all AV.one = true → RCs ρ (l.map (evS ss)) (l.map a.eval) := by
    intro l
    induction l with
    | nil => intro _; simp [RCs]
    | cons x l ih =>
      intro hl
      simp only [List.map_cons, List.all_cons, Bool.and_eq_true] at hl
      have hx := (evS_RV hsl x).cells (by simp [hl.1])
      obtain ⟨y, e, _, _⟩ := RV.of_cell hx hl.1
      have h1 : (a.eval x).cells.toList = [a.eval x] := by
        have hv := evS_RV hsl x
        have : isAggV (a.eval x) = false := by
          cases hh : evS ss x <;> rw [hh] at hv hl <;> simp only [AV.one] at hl <;> (try exact absurd hl.1 (by decide)) <;> simp only [RV, RV1, RC] at hv
          all_goals first
            | (simp at hv; rw [hv]; rfl)
            | (obtain ⟨_, _, e⟩ := hv; simp at e; rw [e]; rfl)
            | (obtain ⟨h1, e⟩ := hv; simp at e; rw [e]; rename_i v; cases v <;> first | rfl | simp [Value.oneCell'] at h1)
        exact isAggV_cells this
      simp only [List.map_cons, RCs]
      rw [h1] at hx
      exact ⟨[a.eval x], l.map a.eval, hx, ih hl.2, rfl⟩
  refine Gives.pure (x := .func (.func f) #[] (captured.map a.eval)) hr ?_ ?_
  · simp [execOp, ho, Instr.makeFunc, hf]
  · simp only [RV, RV1, RC]
    exact ⟨captured.toList.map a.eval, key _ hall, by rw [← List.map_toArray]⟩
end
end Go.Proofs.Ytglcjmnkhmdlhaa

/- The operations of a symbolic run, one by one: equality of structs; operations of two operands. -/
namespace Go.Proofs.Ytglcjmnkhmdlhaa
open Go Go.RowKit

section
variable {P : Program} {ρ : Env} {H : Heap} {B : Fr} {W w : World} {ss : List AV} {a : Act} {o : Oper} {E : Eff}
/-- Fields, one by one. -/
def eqF (P : Program) (sym : Bool) (g : Nat → AV → AV → Option (List Bool × Bool)) (x y : AV) : List Field → Nat → Option (List Bool × Bool)
  | [], _ => some ([], true)
  | f :: fs, i => match f.name == "_" with
    | true => none
    | false => match effPart P sym f.type x [(f.offset, i, 0)], effPart P sym f.type y [(f.offset, i, 0)] with
      | some p, some q => match g f.type p.v q.v, eqF P sym g x y fs (i + 1) with
        | some (o1, r1), some (o2, r2) => some (p.ob ++ (q.ob ++ (o1 ++ o2)), r1 && r2)
        | _, _ => none
      | _, _ => none
/-- Equality of structs, and of what they hold. -/
def eqS (P : Program) (sym : Bool) : Nat → Nat → AV → AV → Option (List Bool × Bool)
  | 0, _, _, _ => none
  | n + 1, T, x, y => match P.underlying T with
    | some (.struct fs) => match P.stoodInHeld T, x.isAgg && y.isAgg with
      | false, true => eqF P sym (eqS P sym n) x y fs.toList 0
      | _, _ => none
    | some (.int _) => match x, y with
      | .int k1 p, .int k2 q => match kindEq k1 k2 with
        | true => some ([], p == q)
        | false => none
      | _, _ => none
    | some .string => match x, y with
      | .str p, .str q => some ([], p.toList == q.toList)
      | _, _ => none
    | _ => eqAV P sym T x y
theorem eqF_sound {sym : Bool} {g : Nat → AV → AV → Option (List Bool × Bool)} {d : Nat}
    (hg : ∀ T u v x y ob r, g T u v = some (ob, r) → (∀ b ∈ ob, b = true) → RV ρ u x → RV ρ v y → (Op.equalIn d T x y).run P w = .ok r w)
    {u v : AV} {xs ys : Array Value} (hu : RV ρ u (.agg xs)) (hv : RV ρ v (.agg ys)) : ∀ (fs : List Field) (i : Nat) (ob : List Bool) (r : Bool), eqF P sym g u v fs i = some (ob, r) → (∀ b ∈ ob, b = true) →
      (Op.eqFields d xs ys fs).run P w = .ok r w
  | [], i, ob, r, h, _ => by
    simp only [eqF, Option.some.injEq, Prod.mk.injEq] at h
    obtain ⟨rfl, rfl⟩ := h
    simp [Op.eqFields]
  | f :: fs, i, ob, r, h, hob => by
    simp only [eqF] at h
    split at h <;> try contradiction
    rename_i hn
    have hn : f.name ≠ "_" := by simpa using hn
    split at h <;> try contradiction
    rename_i p q hp hq
    split at h <;> try contradiction
    rename_i o1 r1 o2 r2 h1 h2
    simp only [Option.some.injEq, Prod.mk.injEq] at h
    obtain ⟨rfl, rfl⟩ := h
    obtain ⟨cs, y1, e1, p1, v1, _⟩ := effPart_sound (w := w) hu hp (fun b hb => hob b (by simp [hb]))
    obtain ⟨cs', y2, e2, p2, v2, _⟩ := effPart_sound (w := w) hv hq (fun b hb => hob b (by simp [hb]))
    simp only [Value.agg.injEq] at e1 e2
    subst e1 e2
    have he := hg _ _ _ _ _ _ _ h1 (fun b hb => hob b (by simp [hb])) v1 v2
    have ih := eqF_sound hg hu hv fs (i + 1) o2 r2 h2 (fun b hb => hob b (by simp [hb]))
    simp only [off, Nat.mul_zero, Nat.add_zero] at p1 p2
    simp only [Op.eqFields, hn, ne_eq, not_false_eq_true, if_true, Sem.run_bind, p1, p2, he, Result.andThen_ok]
    cases r1
    · simp
    · simp only [Bool.not_true, Bool.false_eq_true, if_false, Bool.true_and]; exact ih
theorem eqS_sound {sym : Bool} : ∀ (n d T : Nat) (u v : AV) (x y : Value) (ob : List Bool) (r : Bool), eqS P sym n T u v = some (ob, r) → (∀ b ∈ ob, b = true) → RV ρ u x → RV ρ v y → (Op.equalIn (d + n + 1) T x y).run P w = .ok r w
  | 0, _, _, _, _, _, _, _, _, h, _, _, _ => by simp [eqS] at h
  | n + 1, d, T, u, v, x, y, ob, r, h, hob, hu, hv => by
    simp only [eqS] at h
    split at h
    · rename_i fs hT
      split at h <;> try contradiction
      rename_i hp hk
      simp only [Bool.and_eq_true] at hk
      obtain ⟨xs, rfl, _⟩ := RV_agg hu hk.1
      obtain ⟨ys, rfl, _⟩ := RV_agg hv hk.2
      have hf : P.fieldsOf T = fs := by simp [Program.fieldsOf, hT]
      have := eqF_sound (d := d + n + 1) (fun T u v x y ob r => eqS_sound n d T u v x y ob r) hu hv fs.toList 0 ob r h hob
      rw [show d + (n + 1) + 1 = (d + n + 1) + 1 by omega, run_equalIn_struct w (d + n + 1) T _ _ (by rw [hf]; exact hT) hp, hf]
      exact this
    · rename_i k hT
      split at h <;> try contradiction
      split at h <;> try contradiction
      rename_i hk
      have hk := kindEq_eq hk
      subst hk
      simp only [Option.some.injEq, Prod.mk.injEq] at h
      obtain ⟨rfl, rfl⟩ := h
      rw [RV_int hu, RV_int hv]
      exact run_equalIn_int w _ T _ _ _ _ hT
    · rename_i hT
      split at h <;> try contradiction
      simp only [Option.some.injEq, Prod.mk.injEq] at h
      obtain ⟨rfl, rfl⟩ := h
      rw [RV_str hu, RV_str hv]
      exact run_equalIn_string w _ T _ _ hT
    · exact eqAV_soundD (d + n) h hob hu hv
/-- Equality of two values of a type. -/
def eqTop (P : Program) (sym : Bool) (T : Nat) (x y : AV) : Option (List Bool × Bool) :=
  match P.underlying T with
  | some (.struct _) => eqS P sym 8 T x y
  | _ => eqAV P sym T x y
theorem eqTop_sound {sym : Bool} {T : Nat} {u v : AV} {x y : Value} {ob : List Bool} {r : Bool} (h : eqTop P sym T u v = some (ob, r)) (hob : ∀ b ∈ ob, b = true) (hu : RV ρ u x) (hv : RV ρ v y) :
    (Op.equal T x y).run P w = .ok r w := by
  unfold eqTop at h
  split at h
  · exact eqS_sound 8 9991 T u v x y ob r h hob hu hv
  · exact eqAV_soundD 9998 h hob hu hv
theorem eqTop_kind {sym : Bool} {T : Nat} {u v : AV} {x y : Value} {ob : List Bool} {r : Bool} (h : eqTop P sym T u v = some (ob, r)) (hu : RV ρ u x) (hv : RV ρ v y) :
    (∃ p q, x = .bool p ∧ y = .bool q) ∨ (∃ p q, x = .agg p ∧ y = .agg q) := by
  unfold eqTop at h
  split at h
  · rename_i fs hT
    simp only [eqS, hT] at h
    split at h <;> try contradiction
    rename_i hk
    simp only [Bool.and_eq_true] at hk
    obtain ⟨xs, rfl, _⟩ := RV_agg hu hk.1
    obtain ⟨ys, rfl, _⟩ := RV_agg hv hk.2
    exact .inr ⟨_, _, rfl, rfl⟩
  · exact eqAV_kind h hu hv
def effBin (P : Program) (sym : Bool) (ss : List AV) (op : BinOp) (T : Nat) (x y : Operand) : Option Eff :=
  match evT P ss T x, evT P ss T y with
  | .int k p, .int k2 q => (arith sym op k k2 p q).map fun r => { v := r.2, ob := r.1 }
  | .str p, .str q => (strOp sym op p q).map fun r => { v := r.2, ob := r.1 }
  | u, v => match op with
    | .eql => match P.eqGuardType P.depth T with
      | false => (eqTop P sym T u v).map fun r => { v := .bool r.2, ob := r.1 }
      | true => none
    | .neq => match P.eqGuardType P.depth T with
      | false => (eqTop P sym T u v).map fun r => { v := .bool (!r.2), ob := r.1 }
      | true => none
    | _ => none

theorem effBin_sound {sym : Bool} {op : BinOp} {T T2 : Nat} {x y : Operand} (hr : Rep ρ H B W w) (hsl : SlotsR ρ ss a.tmps) (ho : o.op = .binOp op T x y T2) (h : effBin P sym ss op T x y = some E) (hob : ∀ b ∈ E.ob, b = true) : Gives P ρ H B W w (execOp a.eval o) E := by
  unfold effBin at h
  have hx := evT_RV (P := P) hsl T x
  have hy := evT_RV (P := P) hsl T y
  split at h
  · rename_i k p k2 q e1 e2
    rw [e1] at hx; rw [e2] at hy
    cases ha : arith sym op k k2 p q with
    | none => simp [ha] at h
    | some r =>
      simp [ha] at h; subst h
      obtain ⟨z, hz, hv⟩ := arith_sound (P := P) (ρ := ρ) (w := w) (T := T) ha hob
      refine Gives.pure hr ?_ hv
      have hgd : (eqGuard op T x y (.int k p) (.int k2 q)).run P w = .ok () w := by unfold eqGuard; split <;> rfl
      simp [execOp, ho, RV_int hx, RV_int hy, hgd, hz]
  · rename_i p q e1 e2
    rw [e1] at hx; rw [e2] at hy
    cases ha : strOp sym op p q with
    | none => simp [ha] at h
    | some r =>
      simp [ha] at h; subst h
      obtain ⟨z, hz, hv⟩ := strOp_sound (P := P) (ρ := ρ) (w := w) (T := T) ha hob
      refine Gives.pure hr ?_ hv
      have hgd : (eqGuard op T x y (.string p) (.string q)).run P w = .ok () w := by unfold eqGuard; split <;> rfl
      simp [execOp, ho, RV_str hx, RV_str hy, hgd, hz]
  · split at h <;> try contradiction
    · split at h <;> try contradiction
      rename_i hg
      cases ha : eqTop P sym T (evT P ss T x) (evT P ss T y) with
      | none => simp [ha] at h
      | some r =>
        simp [ha] at h; subst h
        have hk := eqTop_kind ha hx hy
        have he := eqTop_sound (w := w) ha hob hx hy
        refine Gives.pure (x := .bool r.2) hr ?_ (by simp [RV, RV1, RC])
        have hgd := eqGuard_free (P := P) (w := w) (op := .eql) (T := T) (x := x) (y := y) hk hg
        have hb : (binOp .eql T (a.eval x) (a.eval y)).run P w = .ok (.bool r.2) w := by
          rcases hk with ⟨u, v, e1, e2⟩ | ⟨u, v, e1, e2⟩ <;> rw [e1, e2] at he ⊢ <;> simp [binOp, he]
        simp [execOp, ho, hgd, hb]
    · split at h <;> try contradiction
      rename_i hg
      cases ha : eqTop P sym T (evT P ss T x) (evT P ss T y) with
      | none => simp [ha] at h
      | some r =>
        simp [ha] at h; subst h
        have hk := eqTop_kind ha hx hy
        have he := eqTop_sound (w := w) ha hob hx hy
        refine Gives.pure (x := .bool (!r.2)) hr ?_ (by simp [RV, RV1, RC])
        have hgd := eqGuard_free (P := P) (w := w) (op := .neq) (T := T) (x := x) (y := y) hk hg
        have hb : (binOp .neq T (a.eval x) (a.eval y)).run P w = .ok (.bool (!r.2)) w := by
          rcases hk with ⟨u, v, e1, e2⟩ | ⟨u, v, e1, e2⟩ <;> rw [e1, e2] at he ⊢ <;> simp [binOp, he]
        simp [execOp, ho, hgd, hb]
end
end Go.Proofs.Ytglcjmnkhmdlhaa

/- The operations of a symbolic run, one by one: slices, composites, builtins; all of them. -/
namespace Go.Proofs.Ytglcjmnkhmdlhaa
open Go Go.RowKit

section
variable {P : Program} {ρ : Env} {H : Heap} {B : Fr} {W w : World} {ss : List AV} {a : Act} {o : Oper} {E : Eff}

def bnd (sym : Bool) (ss : List AV) (v : Option Operand) (dflt y : Nat) : Option (List Bool × Nat) :=
  match v with
  | none => some ([], dflt)
  | some x => match evS ss x with
    | .int _ i => (chk sym (decide (0 ≤ i) && decide (i ≤ y))).map fun ob => (ob, i.toNat)
    | _ => none

theorem bnd_sound {sym : Bool} {v : Option Operand} {dflt y n : Nat} {ob : List Bool} {code : Go.BoundsCode} (hsl : SlotsR ρ ss a.tmps) (h : bnd sym ss v dflt y = some (ob, n)) (hob : ∀ b ∈ ob, b = true) :
    ((match v.map a.eval with
      | some v => Instr.sliceBound v y code
      | none => Pure.pure dflt : Sem Nat)).run P w = .ok n w ∧ (v = none ∧ n = dflt ∨ n ≤ y) := by
  unfold bnd at h
  split at h
  · simp at h; obtain ⟨_, rfl⟩ := h; exact ⟨rfl, .inl ⟨rfl, rfl⟩⟩
  · rename_i x
    split at h <;> try contradiction
    rename_i k i e
    have hx := evS_RV hsl x
    rw [e] at hx
    cases hc : chk sym (decide (0 ≤ i) && decide (i ≤ y)) with
    | none => simp [hc] at h
    | some q =>
      simp [hc] at h; obtain ⟨rfl, rfl⟩ := h
      have := chk_sound hc hob
      simp only [Bool.and_eq_true, decide_eq_true_eq] at this
      refine ⟨?_, .inr (by omega)⟩
      simp [RV_int hx, Instr.sliceBound, asIntOf, this]

def effSlice (P : Program) (sym : Bool) (ss : List AV) (T : Nat) (x : Operand) (lo hi mx : Option Operand) : Option Eff :=
  match mx with
  | some _ => none
  | none => match P.underlying T with
    | some (.array n e) => match evS ss x, P.underlying e, bnd sym ss hi n n with
      | .ptr k p, some _, some (o1, h) => match bnd sym ss lo 0 h with
        | some (o2, l) => match Nat.beq n l with
          | true => none
          | false => some { v := .sl k (p ++ [(0, l, P.cellsOf e)]) (h - l) (n - l), ob := o1 ++ o2 }
        | none => none
      | _, _, _ => none
    | some (.slice e) => match evS ss x, P.underlying e with
      | .sl k p n c, some _ => match p, bnd sym ss hi n c with
        | [(0, a, s)], some (o1, h) => match bnd sym ss lo 0 h, Nat.beq s (P.cellsOf e) with
          | some (o2, l), true => (chk sym (Nat.ble (l + 1) c)).map fun o3 => { v := .sl k [(0, a + l, s)] (h - l) (c - l), ob := o1 ++ (o2 ++ o3) }
          | _, _ => none
        | _, _ => none
      | _, _ => none
    | some .string => match evT P ss T x with
      | .str s => match bnd sym ss hi s.size s.size with
        | some (o1, h) => match bnd sym ss lo 0 h with
          | some (o2, l) => some { v := .str (s.extract l h), ob := o1 ++ o2 }
          | none => none
        | none => none
      | _ => none
    | _ => none

theorem sliceBounds_run {sym isSlice : Bool} {lo hi : Option Operand} {len cap h l : Nat} {o1 o2 : List Bool} (hsl : SlotsR ρ ss a.tmps) (h1 : bnd sym ss hi len cap = some (o1, h)) (h2 : bnd sym ss lo 0 h = some (o2, l))
    (hob1 : ∀ b ∈ o1, b = true) (hob2 : ∀ b ∈ o2, b = true) : (Instr.sliceBounds isSlice len cap (lo.map a.eval) (hi.map a.eval) none).run P w = .ok (l, h, cap) w := by
  have r1 := (bnd_sound (P := P) (w := w) (a := a) (code := if isSlice then .sliceAcap else .sliceAlen) hsl h1 hob1).1
  have r2 := (bnd_sound (P := P) (w := w) (a := a) (code := .sliceB) hsl h2 hob2).1
  cases lo <;> cases hi <;> simp only [Option.map_none, Option.map_some] at r1 r2 ⊢ <;> simp only [Instr.sliceBounds, Sem.run_bind, Sem.run_pure, Result.andThen_ok] <;>
    (try simp only [Sem.run_pure] at r1 r2) <;> simp_all

theorem effSlice_sound {sym : Bool} {T : Nat} {x : Operand} {lo hi mx : Option Operand} (hr : Rep ρ H B W w) (hsl : SlotsR ρ ss a.tmps) (ho : o.op = .slice T x lo hi mx) (h : effSlice P sym ss T x lo hi mx = some E) (hob : ∀ b ∈ E.ob, b = true) : Gives P ρ H B W w (execOp a.eval o) E := by
  unfold effSlice at h
  split at h <;> try contradiction
  split at h <;> try contradiction
  · rename_i n e hT
    split at h <;> try contradiction
    rename_i k p d o1 hh ex he h1
    split at h <;> try contradiction
    rename_i o2 l h2
    split at h <;> try contradiction
    rename_i hnl
    simp at h; subst h
    have hx := evS_RV hsl x
    rw [ex] at hx
    simp only [RV, RV1, RC] at hx
    obtain ⟨b, hb, e2⟩ := hx
    simp at e2
    have hrun := sliceBounds_run (P := P) (w := w) (isSlice := false) hsl h1 h2 (fun b hb => hob b (by simp [hb])) (fun b hb => hob b (by simp [hb]))
    have hnl : n ≠ l := by rintro rfl; simp at hnl
    refine Gives.pure (x := .slice (some ⟨b, off p + l * P.cellsOf e, none⟩) (hh - l) (n - l)) hr ?_ ?_
    · simp [execOp, ho, e2, Instr.sliceAt, run_underlying' hT, Instr.sureAddr, hrun, run_sizeOf' he, hnl, addr_add]
    · simp only [RV, RV1, RC]
      exact ⟨b, hb, by simp [off_append, off]⟩
  · rename_i e hT
    split at h <;> try contradiction
    rename_i k p n c d ex he
    split at h <;> try contradiction
    rename_i q s o1 hh h1
    split at h <;> try contradiction
    rename_i o2 l h2 hs
    have hs := Nat.eq_of_beq_eq_true hs
    cases hc : chk sym (Nat.ble (l + 1) c) with
    | none => simp [hc] at h
    | some o3 =>
      simp [hc] at h; subst h
      have hlt := Nat.le_of_ble_eq_true (chk_sound hc (fun b hb => hob b (by simp [hb])))
      have hx := evS_RV hsl x
      rw [ex] at hx
      simp only [RV, RV1, RC] at hx
      obtain ⟨b, hb, e2⟩ := hx
      simp at e2
      have hrun := sliceBounds_run (P := P) (w := w) (isSlice := true) hsl h1 h2 (fun b hb => hob b (by simp [hb])) (fun b hb => hob b (by simp [hb]))
      have hnl : ¬ c = l := by omega
      subst hs
      refine Gives.pure (x := .slice (some ⟨b, off [(0, q + l, P.cellsOf e)], none⟩) (hh - l) (c - l)) hr ?_ ?_
      · have hadd : (Addr.add ⟨b, off [(0, q, P.cellsOf e)], none⟩ (l * P.cellsOf e)) = ⟨b, off [(0, q + l, P.cellsOf e)], none⟩ := by
          simp only [Addr.add, off, Nat.add_mul, Nat.zero_add, Nat.add_zero]
          split
          · rename_i h0; rw [h0, Nat.add_zero]
          · rfl
        simp [execOp, ho, e2, Instr.sliceAt, Instr.slice, run_underlying' hT, hrun, run_sizeOf' he, hnl, hadd]
      · simp only [RV, RV1, RC]
        exact ⟨b, hb, rfl⟩
  · rename_i hT
    split at h <;> try contradiction
    rename_i s es
    split at h <;> try contradiction
    rename_i o1 hh h1
    split at h <;> try contradiction
    rename_i o2 l h2
    simp at h; subst h
    have hx := evT_RV (P := P) hsl T x
    rw [es] at hx
    have hrun := sliceBounds_run (P := P) (w := w) (isSlice := false) hsl h1 h2 (fun b hb => hob b (by simp [hb])) (fun b hb => hob b (by simp [hb]))
    refine Gives.pure (x := .string (s.extract l hh)) hr ?_ (by simp [RV, RV1, RC])
    simp [execOp, ho, RV_str hx, Instr.sliceAt, Instr.slice, run_underlying' hT, hrun]

/-! ### Composites -/
def setParts : AV → List (Path × Nat × AV) → Option AV
  | t, [] => some t
  | t, (p, n, v) :: r => match Nat.beq v.size n && (v.isAgg || v.one) with
    | true => match t.set false p v with
      | some (_, t') => setParts t' r
      | none => none
    | false => none

theorem fold_set (o : Nat) : ∀ (cc : List Value) (j : Nat) (c1 c2 c3 : List Value), c1.length = o + j → c2.length = cc.length →
    (cc.zipIdx j).foldl (fun (cs : Array Value) (x : Value × Nat) => cs.setIfInBounds (o + x.2) x.1) (c1 ++ c2 ++ c3).toArray = (c1 ++ cc ++ c3).toArray
  | [], j, c1, c2, c3, _, h2 => by
    have : c2 = [] := by cases c2 <;> simp_all
    simp [this]
  | c :: cc, j, c1, c2, c3, h1, h2 => by
    cases c2 with
    | nil => simp at h2
    | cons d c2 =>
      simp only [List.zipIdx_cons, List.foldl_cons]
      have : (c1 ++ d :: c2 ++ c3).toArray.setIfInBounds (o + j) c = ((c1 ++ [c]) ++ c2 ++ c3).toArray := by
        rw [← h1]; simp [List.set_append_right]
      rw [this, fold_set o cc (j + 1) (c1 ++ [c]) c2 c3 (by simp; omega) (by simpa using h2)]
      simp

theorem chk_false {c : Bool} {ob : List Bool} (h : chk false c = some ob) : ob = [] := by
  unfold chk at h
  cases c <;> simp at h
  exact h

theorem map_chk_false {c : Bool} {f : List Bool → AV} {ob : List Bool} {t : AV} (h : ((chk false c).map fun o => (o, f o)) = some (ob, t)) : ob = [] := by
  cases hc : chk false c with
  | none => simp [hc] at h
  | some q => simp [hc] at h; rw [← h.1]; exact chk_false hc

theorem set_false_ob : ∀ (p : Path) (t v : AV) (ob : List Bool) (t' : AV), t.set false p v = some (ob, t') → ob = []
  | [], t, v, ob, t', h => by
    unfold AV.set at h
    split at h <;> simp at h
    exact h.1
  | (b, i, s) :: p, t, v, ob, t', h => by
    cases t <;> unfold AV.set at h <;> (try simp only at h) <;> try contradiction
    case u x =>
      split at h <;> try contradiction
      split at h <;> try contradiction
      exact map_chk_false h
    case ints k n l =>
      split at h <;> try contradiction
      split at h <;> try contradiction
      exact map_chk_false h
    case agg l =>
      split at h <;> try contradiction
      rename_i d _
      split at h <;> try contradiction
      cases hd : d.set false p v with
      | none => simp [hd] at h
      | some r => simp [hd] at h; rw [← h.1]; exact set_false_ob p d v r.1 r.2 hd

/-- What 'parts' says of each part: its path, its number of cells, its value. -/
theorem fill_run (place : Nat → Option (Nat × Nat)) : ∀ (l : List (Nat × Path × Nat × AV × Value)) (t t' : AV) (cs : List Value), RC ρ t cs →
    (∀ q ∈ l, place q.1 = some (off q.2.1, q.2.2.1) ∧ RV ρ q.2.2.2.1 q.2.2.2.2) → setParts t (l.map fun q => (q.2.1, q.2.2.1, q.2.2.2.1)) = some t' →
    ∃ cs' : List Value, Instr.fill place cs.toArray (l.map fun q => (q.1, q.2.2.2.2)) = some cs'.toArray ∧ RC ρ t' cs'
  | [], t, t', cs, h, _, hs => by simp [setParts] at hs; subst hs; exact ⟨cs, by simp [Instr.fill], h⟩
  | (i, p, n, v, x) :: l, t, t', cs, h, hl, hs => by
    simp only [List.map_cons, setParts] at hs
    split at hs <;> try contradiction
    rename_i hc
    simp only [Bool.and_eq_true] at hc
    split at hs <;> try contradiction
    rename_i ob t1 hset
    obtain ⟨hp, hv⟩ := hl (i, p, n, v, x) (by simp)
    simp only at hp hv
    have hcc := hv.cells hc.2
    obtain ⟨c1, c2, c3, rfl, hl1, hl2, hr⟩ := AV.set_sound false p t cs v _ ob t1 h hcc hset (by rw [set_false_ob p t v ob t1 hset]; simp)
    obtain ⟨cs', h1, h2⟩ := fill_run place l t1 t' _ hr (fun q hq => hl q (by simp [hq])) hs
    refine ⟨cs', ?_, h2⟩
    have hsz := RC.length _ _ hcc
    have hn := Nat.eq_of_beq_eq_true hc.1
    simp only [List.map_cons, Instr.fill, hp]
    have hxs : x.cells.size = n := by rw [← hn, ← hsz]; simp
    rw [if_neg (by simp [hxs]; rw [← hl1]; have : x.cells.toList.length = n := by simpa using hxs
                   omega)]
    have hf := fold_set (off p) x.cells.toList 0 c1 c2 c3 (by omega) hl2
    rw [← h1]
    congr 1
    rw [← hf]
    rw [← Array.foldl_toList]
    simp

def structParts (P : Program) (ss : List AV) (fs : List Field) : List (Nat × Operand) → Option (List (Path × Nat × AV))
  | [] => some []
  | (i, x) :: r => match fs[i]? with
    | some f => (structParts P ss fs r).map fun q => ([(f.offset, i, 0)], P.cellsOf f.type, evT P ss f.type x) :: q
    | none => none

def arrayParts (P : Program) (ss : List AV) (e : Nat) : List (Nat × Operand) → List (Path × Nat × AV)
  | [] => []
  | (i, x) :: r => ([(0, i, P.cellsOf e)], P.cellsOf e, evT P ss e x) :: arrayParts P ss e r

def zeroAV (P : Program) (T : Nat) : Option AV :=
  match P.info? T with
  | some i => match i.zero with
    | some z => shapeV P T z
    | none => none
  | none => none

def effBuild (P : Program) (ss : List AV) (T : Nat) (parts : List (Nat × Operand)) : Option Eff :=
  match zeroAV P T, P.underlying T with
  | some z, some (.struct fs) => match fs.toList.all fun f => (P.info? f.type).isSome with
    | true => (structParts P ss fs.toList parts).bind fun q => (setParts z q).bind fun v => match v.isAgg with
      | true => some { v := v }
      | false => none
    | false => none
  | some z, some (.array _ e) => match P.underlying e with
    | some _ => (setParts z (arrayParts P ss e parts)).bind fun v => match v.isAgg with
      | true => some { v := v }
      | false => none
    | none => none
  | _, _ => none

theorem zeroAV_sound {T : Nat} {z : AV} (h : zeroAV P T = some z) : ∃ v, (zeroValue T).run P w = .ok v w ∧ RC ρ z v.cells.toList := by
  unfold zeroAV at h
  split at h <;> try contradiction
  rename_i i hi
  split at h <;> try contradiction
  rename_i v hz
  exact ⟨v, by simp [zeroValue, typeInfo, hi, hz], (shapeV_sound ρ h).1⟩

theorem mapM_sizes (w : World) : ∀ (l : List Field), (∀ f ∈ l, (P.info? f.type).isSome = true) → (l.mapM fun f => (do Pure.pure (f.offset, ← sizeOf f.type) : Sem (Nat × Nat))).run P w = .ok (l.map fun f => (f.offset, P.cellsOf f.type)) w
  | [], _ => by simp
  | f :: l, h => by
    obtain ⟨i, hi⟩ := Option.isSome_iff_exists.1 (h f (by simp))
    have ih := mapM_sizes w l (fun g hg => h g (by simp [hg]))
    have h1 : (do Pure.pure (f.offset, ← sizeOf f.type) : Sem (Nat × Nat)).run P w = .ok (f.offset, P.cellsOf f.type) w := by
      simp [sizeOf, typeInfo, hi, Program.cellsOf]
    rw [List.mapM_cons, Sem.run_bind, h1, Result.andThen_ok, Sem.run_bind, ih]
    rfl

theorem structParts_list (hsl : SlotsR ρ ss a.tmps) (fs : List Field) : ∀ (parts : List (Nat × Operand)) (q : List (Path × Nat × AV)), structParts P ss fs parts = some q →
    ∃ l : List (Nat × Path × Nat × AV × Value), (l.map fun q => (q.2.1, q.2.2.1, q.2.2.2.1)) = q ∧ (l.map fun q => (q.1, q.2.2.2.2)) = (parts.map fun p => (p.1, a.eval p.2)) ∧
      ∀ q ∈ l, ((fs.map fun f => (f.offset, P.cellsOf f.type))[q.1]? = some (off q.2.1, q.2.2.1)) ∧ RV ρ q.2.2.2.1 q.2.2.2.2
  | [], q, h => by simp [structParts] at h; subst h; exact ⟨[], rfl, rfl, by simp⟩
  | (i, x) :: r, q, h => by
    simp only [structParts] at h
    split at h <;> try contradiction
    rename_i f hf
    cases hr : structParts P ss fs r with
    | none => simp [hr] at h
    | some q' =>
      simp [hr] at h; subst h
      obtain ⟨l, h1, h2, h3⟩ := structParts_list hsl fs r q' hr
      refine ⟨(i, [(f.offset, i, 0)], P.cellsOf f.type, evT P ss f.type x, a.eval x) :: l, by simp [h1], by simp [h2], ?_⟩
      intro y hy
      simp only [List.mem_cons] at hy
      rcases hy with rfl | hy
      · exact ⟨by simp [hf, off], evT_RV hsl _ _⟩
      · exact h3 y hy

theorem arrayParts_list (hsl : SlotsR ρ ss a.tmps) (e : Nat) : ∀ (parts : List (Nat × Operand)),
    ∃ l : List (Nat × Path × Nat × AV × Value), (l.map fun q => (q.2.1, q.2.2.1, q.2.2.2.1)) = arrayParts P ss e parts ∧ (l.map fun q => (q.1, q.2.2.2.2)) = (parts.map fun p => (p.1, a.eval p.2)) ∧
      ∀ q ∈ l, ((fun i => some (i * P.cellsOf e, P.cellsOf e)) q.1 = some (off q.2.1, q.2.2.1)) ∧ RV ρ q.2.2.2.1 q.2.2.2.2
  | [] => ⟨[], rfl, rfl, by simp⟩
  | (i, x) :: r => by
    obtain ⟨l, h1, h2, h3⟩ := arrayParts_list hsl e r
    refine ⟨(i, [(0, i, P.cellsOf e)], P.cellsOf e, evT P ss e x, a.eval x) :: l, by simp [arrayParts, h1], by simp [h2], ?_⟩
    intro y hy
    simp only [List.mem_cons] at hy
    rcases hy with rfl | hy
    · exact ⟨by simp [off], evT_RV hsl _ _⟩
    · exact h3 y hy

theorem effBuild_sound {T : Nat} {parts : Array (Nat × Operand)} (hr : Rep ρ H B W w) (hsl : SlotsR ρ ss a.tmps) (ho : o.op = .build T parts) (h : effBuild P ss T parts.toList = some E) : Gives P ρ H B W w (execOp a.eval o) E := by
  unfold effBuild at h
  split at h <;> try contradiction
  · rename_i z fs hz hT
    obtain ⟨zv, hzr, hzc⟩ := zeroAV_sound (ρ := ρ) (w := w) hz
    split at h <;> try contradiction
    rename_i hall
    cases hq : structParts P ss fs.toList parts.toList with
    | none => simp [hq] at h
    | some q =>
      simp only [hq, Option.bind_some] at h
      cases hs : setParts z q with
      | none => simp [hs] at h
      | some v =>
        simp only [hs, Option.bind_some] at h
        split at h <;> try contradiction
        rename_i hv
        simp at h; subst h
        obtain ⟨l, h1, h2, h3⟩ := structParts_list (a := a) hsl fs.toList parts.toList q hq
        obtain ⟨cs', hf, hrc⟩ := fill_run (fun i => (fs.toList.map fun f => (f.offset, P.cellsOf f.type))[i]?) l z v _ hzc h3 (by rw [h1]; exact hs)
        rw [h2] at hf
        refine Gives.pure (x := .agg cs'.toArray) hr ?_ (RV.of_cells hrc hv)
        have hm := mapM_sizes (P := P) w fs.toList (fun f hf => List.all_eq_true.1 hall f hf)
        simp only [execOp, ho, Instr.build, Sem.run_bind, hzr, Result.andThen_ok, run_underlying' hT]
        rw [Array.mapM_eq_mapM_toList]
        simp only [Sem.run_map, hm, Result.andThen_ok]
        simp only [List.getElem?_toArray]
        simp at hf
        simp [hf]
  · rename_i z n e hz hT
    obtain ⟨zv, hzr, hzc⟩ := zeroAV_sound (ρ := ρ) (w := w) hz
    split at h <;> try contradiction
    rename_i d he
    cases hs : setParts z (arrayParts P ss e parts.toList) with
    | none => simp [hs] at h
    | some v =>
      simp only [hs, Option.bind_some] at h
      split at h <;> try contradiction
      rename_i hv
      simp at h; subst h
      obtain ⟨l, h1, h2, h3⟩ := arrayParts_list (P := P) (a := a) hsl e parts.toList
      obtain ⟨cs', hf, hrc⟩ := fill_run (fun i => some (i * P.cellsOf e, P.cellsOf e)) l z v _ hzc h3 (by rw [h1]; exact hs)
      rw [h2] at hf
      refine Gives.pure (x := .agg cs'.toArray) hr ?_ (RV.of_cells hrc hv)
      simp at hf
      simp [execOp, ho, Instr.build, hzr, run_underlying' hT, run_sizeOf' he, hf]
end
end Go.Proofs.Ytglcjmnkhmdlhaa

/- The operations of a symbolic run: slices that are written out, builtins; all operations; what an operation hangs on. -/
namespace Go.Proofs.Ytglcjmnkhmdlhaa
open Go Go.RowKit

section
variable {P : Program} {ρ : Env} {H : Heap} {B : Fr} {W w : World} {ss : List AV} {a : Act} {o : Oper} {E : Eff}

theorem RCs_append : ∀ (l m : List AV) (c d : List Value), RCs ρ l c → RCs ρ m d → RCs ρ (l ++ m) (c ++ d)
  | [], m, c, d, h1, h2 => by simp only [RCs] at h1; subst h1; simpa using h2
  | v :: l, m, c, d, h1, h2 => by
    simp only [RCs] at h1
    obtain ⟨c1, c2, h3, h4, rfl⟩ := h1
    simp only [List.cons_append, RCs]
    exact ⟨c1, c2 ++ d, h3, RCs_append l m c2 d h4 h2, by simp⟩

theorem repeat_zero (z : Array Value) (s : Nat) (hz : z.size = s) : ∀ n : Nat, (List.range (n * s)).map (fun i => z[i % z.size]!) = (List.replicate n z.toList).flatten
  | 0 => by simp
  | n + 1 => by
    have ih := repeat_zero z s hz n
    rw [Nat.add_mul, Nat.one_mul, List.range_add, List.map_append, ih, List.replicate_succ', List.flatten_append]
    congr 1
    simp only [List.map_map, List.flatten_cons, List.flatten_nil, List.append_nil]
    apply List.ext_getElem
    · simp [hz]
    · intro i h1 h2
      simp at h1
      have hm : (n * s + i) % z.size = i := by rw [hz, Nat.add_comm, Nat.add_mul_mod_self_right, Nat.mod_eq_of_lt h1]
      have hi : i < z.size := by omega
      simp only [List.getElem_map, Function.comp, List.getElem_range, hm, Array.getElem_toList]
      exact getElem!_pos z i hi

theorem RCs_replicate {z : AV} {zs : List Value} (h : RC ρ z zs) : ∀ n : Nat, RCs ρ (List.replicate n z) (List.replicate n zs).flatten
  | 0 => by simp [RCs]
  | n + 1 => by
    simp only [List.replicate_succ, List.flatten_cons, RCs]
    exact ⟨zs, _, h, RCs_replicate h n, rfl⟩

def zeroRow (P : Program) (e n : Nat) : Option AV :=
  match P.underlying e with
  | some (.int k) => some (.ints k n (List.replicate n 0))
  | _ => (zeroAV P e).map fun z => .agg (List.replicate n z)

def zeroInt (P : Program) (e : Nat) : Bool :=
  match P.underlying e, P.info? e with
  | some (.int k), some i => match i.zero with
    | some (.int k' n) => kindEq k k' && decide (n = 0)
    | _ => false
  | some (.int _), none => false
  | _, _ => true

theorem replicate_flatten_one {α : Type} (x : α) (n : Nat) : (List.replicate n [x]).flatten = List.replicate n x := by
  induction n with
  | zero => rfl
  | succ n ih => simp [List.replicate_succ, ih]

theorem zeroRow_sound {e n : Nat} {r : AV} (h : zeroRow P e n = some r) (hz : zeroInt P e = true) {z : Value} (hr : (zeroValue e).run P w = .ok z w) (hs : z.cells.size = P.cellsOf e) :
    RC ρ r ((List.range (n * P.cellsOf e)).map (fun i => z.cells[i % z.cells.size]!)) := by
  rw [repeat_zero z.cells _ hs n]
  unfold zeroRow at h
  unfold zeroInt at hz
  split at h
  · rename_i k hk
    simp at h; subst h
    simp only [hk] at hz
    split at hz <;> try contradiction
    · rename_i k2 i hi hk2
      simp at hi; subst hi
      split at hz <;> try contradiction
      rename_i k' m hm
      simp only [Bool.and_eq_true, decide_eq_true_eq] at hz
      have h1 := kindEq_eq hz.1
      have h2 := hz.2
      subst h1 h2
      have : z = .int k 0 := by
        simp [zeroValue, typeInfo, hk2, hm] at hr
        exact hr.symm
      subst this
      simp only [RC, Value.cells]
      refine ⟨by simp, ?_⟩
      simp
    · rename_i hne _
      obtain ⟨i, hi⟩ := info_of_underlying hk
      exact (hne k i rfl hi).elim
  · cases hzz : zeroAV P e with
    | none => simp [hzz] at h
    | some y =>
      simp [hzz] at h; subst h
      obtain ⟨v, hv, hc⟩ := zeroAV_sound (ρ := ρ) (w := w) hzz
      rw [hr] at hv
      simp at hv; subst hv
      simp only [RC]
      exact RCs_replicate hc n

def effBuildSlice (P : Program) (ss : List AV) (lk : Nat → Option Blk) (key T n : Nat) (parts : List (Nat × Operand)) : Option Eff :=
  match P.underlying T with
  | some (.slice e) => match P.underlying e, P.info? e with
    | some _, some i => match i.zero with
      | some z => match zeroInt P e && Nat.ble (n * P.cellsOf e) 16777216 && Nat.beq z.cells.size (P.cellsOf e) && Nat.ble 1 (n * P.cellsOf e), lk key with
        | true, none => (zeroRow P e n).bind fun r => (setParts r (arrayParts P ss e parts)).map fun v => { v := .sl key [(0, 0, P.cellsOf e)] n n, rd := [key], wr := some (key, ⟨e, v, true⟩) }
        | _, _ => none
      | none => none
    | _, _ => none
  | _ => none

theorem effBuildSlice_sound {key T n : Nat} {parts : Array (Nat × Operand)} (hr : Rep ρ H B W w) (hsl : SlotsR ρ ss a.tmps) (ho : o.op = .buildSlice T n parts) (h : effBuildSlice P ss (hget H) key T n parts.toList = some E) : Gives P ρ H B W w (execOp a.eval o) E := by
  unfold effBuildSlice at h
  split at h <;> try contradiction
  rename_i e hT
  split at h <;> try contradiction
  rename_i d i he hi
  split at h <;> try contradiction
  rename_i z hz
  split at h <;> try contradiction
  rename_i hc hk
  simp only [Bool.and_eq_true] at hc
  obtain ⟨⟨⟨h1, h2⟩, h3⟩, h4⟩ := hc
  have h2 := Nat.le_of_ble_eq_true h2
  have h3 := Nat.eq_of_beq_eq_true h3
  have h4 := Nat.le_of_ble_eq_true h4
  have hzr : (zeroValue e).run P w = .ok z w := by simp [zeroValue, typeInfo, hi, hz]
  cases hzrow : zeroRow P e n with
  | none => simp [hzrow] at h
  | some r =>
    simp only [hzrow, Option.bind_some] at h
    cases hs : setParts r (arrayParts P ss e parts.toList) with
    | none => simp [hs] at h
    | some v =>
      simp [hs] at h; subst h
      have hbase := zeroRow_sound (ρ := ρ) hzrow h1 hzr h3
      obtain ⟨l, e1, e2, e3⟩ := arrayParts_list (P := P) (a := a) hsl e parts.toList
      obtain ⟨cs', hf, hrc⟩ := fill_run (fun i => some (i * P.cellsOf e, P.cellsOf e)) l r v _ hbase e3 (by rw [e1]; exact hs)
      rw [e2] at hf
      obtain ⟨hle, hrep⟩ := hr.alloc (T := e) hk hrc
      refine ⟨.slice (some ⟨w.heap.size, 0, none⟩) n n, _, w.alloc (.cells cs'.toArray e), .inl ?_, hle, ?_, hrep⟩
      · have hne : ¬ (n * P.cellsOf e = 0) := by omega
        have hle2 : ¬ (n * P.cellsOf e > 16777216) := by omega
        have hrange : (Array.range (n * P.cellsOf e)).map (fun i => z.cells[i % z.cells.size]!) = ((List.range (n * P.cellsOf e)).map (fun i => z.cells[i % z.cells.size]!)).toArray := by
          apply Array.toList_inj.1; simp
        simp only [execOp, ho, Instr.buildSlice, Sem.run_bind, run_underlying' hT, Result.andThen_ok, run_sizeOf' he]
        rw [if_neg (by simpa using hle2)]
        rw [if_neg hne]
        simp only [Sem.run_bind, hzr, Sem.run_pure, Result.andThen_ok, hrange]
        have hp : (parts.map fun x => (x.1, a.eval x.2)).toList = parts.toList.map fun p => (p.1, a.eval p.2) := by simp
        simp only [hp, hf]
        simp [newRow]
      · simp only [RV, RV1, RC]
        exact ⟨w.heap.size, by simp [upd], by simp [off]⟩

def roomK (b : Nat) (l c : Int) : Bool := decide (0 ≤ l) && decide (l ≤ c) && decide (c ≤ 4611686018427387904) && decide (c.toNat * b ≤ 140737488355328)

def effMakeSlice (P : Program) (sym : Bool) (ss : List AV) (lk : Nat → Option Blk) (key T : Nat) (x y : Operand) : Option Eff :=
  match P.underlying T with
  | some (.slice e) => match P.underlying e, P.info? e, evS ss x, evS ss y with
    | some _, some i, .int _ l, .int _ c => match i.zero with
      | some z => match zeroInt P e && Nat.beq z.cells.size (P.cellsOf e), lk key, chk sym (roomK i.bytes l c) with
        | true, none, some ob => (zeroRow P e c.toNat).map fun r => { v := .sl key [(0, 0, P.cellsOf e)] l.toNat c.toNat, ob := ob, rd := [key], wr := some (key, ⟨e, r, true⟩) }
        | _, _, _ => none
      | none => none
    | _, _, _, _ => none
  | _ => none

theorem wrap_i64_id {n : Int} (h0 : 0 ≤ n) (h1 : n ≤ 4611686018427387904) : IntKind.i64.wrap n = n := by
  simp [IntKind.wrap, IntKind.signed, IntKind.bits]; omega

theorem effMakeSlice_sound {sym : Bool} {key T : Nat} {x y : Operand} (hr : Rep ρ H B W w) (hsl : SlotsR ρ ss a.tmps) (ho : o.op = .makeSlice T x y) (h : effMakeSlice P sym ss (hget H) key T x y = some E) (hob : ∀ b ∈ E.ob, b = true) : Gives P ρ H B W w (execOp a.eval o) E := by
  unfold effMakeSlice at h
  split at h <;> try contradiction
  rename_i e hT
  split at h <;> try contradiction
  rename_i d i k1 l k2 c he hi ex ey
  split at h <;> try contradiction
  rename_i z hz
  split at h <;> try contradiction
  rename_i ob hc hk hch
  simp only [Bool.and_eq_true] at hc
  obtain ⟨h1, h3⟩ := hc
  have h3 := Nat.eq_of_beq_eq_true h3
  have hx := evS_RV hsl x
  have hy := evS_RV hsl y
  rw [ex] at hx; rw [ey] at hy
  have hx := RV_int hx
  have hy := RV_int hy
  have hzr : (zeroValue e).run P w = .ok z w := by simp [zeroValue, typeInfo, hi, hz]
  cases hzrow : zeroRow P e c.toNat with
  | none => simp [hzrow] at h
  | some r =>
    simp [hzrow] at h; subst h
    have hroom := chk_sound hch hob
    simp only [roomK, Bool.and_eq_true, decide_eq_true_eq] at hroom
    obtain ⟨⟨⟨r1, r2⟩, r3⟩, r4⟩ := hroom
    have hbase := zeroRow_sound (ρ := ρ) hzrow h1 hzr h3
    obtain ⟨hle, hrep⟩ := hr.alloc (T := e) hk hbase
    refine ⟨.slice (some ⟨w.heap.size, 0, none⟩) l.toNat c.toNat, _, w.alloc (.cells ((List.range (c.toNat * P.cellsOf e)).map (fun i => z.cells[i % z.cells.size]!)).toArray e), .inl ?_, hle, ?_, hrep⟩
    · have wl : IntKind.i64.wrap l = l := wrap_i64_id r1 (by omega)
      have wc : IntKind.i64.wrap c = c := wrap_i64_id (by omega) r3
      have hc0 : 0 ≤ c := by omega
      obtain ⟨m, rfl⟩ := Int.eq_ofNat_of_zero_le hc0
      have r4' : m * i.bytes ≤ 140737488355328 := by simpa using r4
      have t1 : ¬ ((m : Int) < 0) := by omega
      have t2 : ¬ ((i.bytes : Int) * (m : Int) > 2 ^ 48) := by
        have : ((i.bytes : Int) * (m : Int)) = ((m * i.bytes : Nat) : Int) := by rw [Nat.mul_comm]; simp
        rw [this]; omega
      have t2' : ¬ (281474976710656 < (i.bytes : Int) * (m : Int)) := by omega
      have t3 : ¬ (l < 0) := by omega
      have t4 : ¬ (l > (m : Int)) := by omega
      have hrange : ∀ zz : Array Value, (m * P.cellsOf e = 0 ∨ zz = z.cells) → (Array.range (m * P.cellsOf e)).map (fun i => zz[i % zz.size]!) = ((List.range (m * P.cellsOf e)).map (fun i => z.cells[i % z.cells.size]!)).toArray := by
        intro zz hzz
        apply Array.toList_inj.1
        rcases hzz with h0 | rfl
        · rw [h0]; simp
        · simp
      have hkey : (Instr.makeSlice T (.int k1 l) (.int k2 m)).run P w = .ok (.slice (some ⟨w.heap.size, 0, none⟩) l.toNat m) (w.alloc (.cells ((List.range (m * P.cellsOf e)).map (fun i => z.cells[i % z.cells.size]!)).toArray e)) := by
        by_cases h0 : m * P.cellsOf e = 0
        · simp [Instr.makeSlice, run_underlying' hT, typeInfo, hi, wl, wc, t1, t2', t3, t4, asInt, asIntOf, askRoom, run_sizeOf' he, h0, newRow]
          congr 2
          apply Array.toList_inj.1; simp
        · simp [Instr.makeSlice, run_underlying' hT, typeInfo, hi, wl, wc, t1, t2', t3, t4, asInt, asIntOf, askRoom, run_sizeOf' he, h0, newRow, hzr]
          rw [hrange _ (.inr rfl)]
      simp [execOp, ho, hx, hy, hkey]
    · simp only [RV, RV1, RC]
      exact ⟨w.heap.size, by simp [upd], by simp [off]⟩

/-- A slice, seen as an array: the place of its first 'n' elements. -/
def effArrPtr (P : Program) (ss : List AV) (T : Nat) (x : Operand) : Option Eff :=
  match P.underlying T, evS ss x with
  | some (.array n _), .sl k [(0, lo, 1)] len _ => match Nat.ble n len with
    | true => some { v := .ptr k [(lo, n, 0)] }
    | false => none
  | _, _ => none

theorem effArrPtr_sound {T : Nat} {x : Operand} (hr : Rep ρ H B W w) (hsl : SlotsR ρ ss a.tmps) (ho : o.op = .sliceToArrayPointer T x) (h : effArrPtr P ss T x = some E) : Gives P ρ H B W w (execOp a.eval o) E := by
  unfold effArrPtr at h
  have hx := evS_RV hsl x
  split at h <;> try contradiction
  rename_i n e k lo len cap hT ex
  split at h <;> try contradiction
  rename_i hle
  have hle := Nat.le_of_ble_eq_true hle
  simp at h; subst h
  rw [ex] at hx
  simp only [RV, RV1, RC] at hx
  obtain ⟨b, hb, e2⟩ := hx
  simp [off] at e2
  refine Gives.pure (x := .pointer (some ⟨b, lo, none⟩)) hr ?_ ?_
  · simp [execOp, ho, e2, Instr.arrayAt, run_underlying' hT, show ¬ len < n by omega]
  · simp only [RV, RV1, RC]
    exact ⟨b, hb, by simp [off]⟩

def ints2 (ss : List AV) : List Operand → Option (IntKind × Int × Int)
  | [x, y] => match evS ss x, evS ss y with
    | .int k p, .int k2 q => match kindEq k k2 with
      | true => some (k, p, q)
      | false => none
    | _, _ => none
  | _ => none

def effBuiltin (P : Program) (ss : List AV) (b : Go.Builtin) (ts : List Nat) (xs : List Operand) : Option Eff :=
  match b with
  | .len => match ts, xs with
    | [t], [x] => match P.underlying t with
      | some .string => match evT P ss t x with
        | .str s => some { v := .int .i64 s.size }
        | _ => none
      | some (.array n _) => some { v := .int .i64 n }
      | some (.slice _) => match evS ss x with
        | .sl _ _ n _ => some { v := .int .i64 n }
        | .nilsl => some { v := .int .i64 0 }
        | _ => none
      | _ => none
    | _, _ => none
  | .max => (ints2 ss xs).map fun r => { v := .int r.1 (if r.2.2 > r.2.1 then r.2.2 else r.2.1) }
  | .min => (ints2 ss xs).map fun r => { v := .int r.1 (if r.2.2 < r.2.1 then r.2.2 else r.2.1) }
  | _ => none

theorem ints2_sound {xs : List Operand} {r : IntKind × Int × Int} (hsl : SlotsR ρ ss a.tmps) (h : ints2 ss xs = some r) : ∃ x y, xs = [x, y] ∧ a.eval x = .int r.1 r.2.1 ∧ a.eval y = .int r.1 r.2.2 := by
  unfold ints2 at h
  split at h <;> try contradiction
  rename_i x y
  split at h <;> try contradiction
  rename_i k p k2 q e1 e2
  split at h <;> try contradiction
  rename_i hk
  have hk := kindEq_eq hk
  subst hk
  simp at h; subst h
  have hx := evS_RV hsl x
  have hy := evS_RV hsl y
  rw [e1] at hx; rw [e2] at hy
  exact ⟨x, y, rfl, RV_int hx, RV_int hy⟩

theorem effBuiltin_sound {b : Go.Builtin} {c : Call} (hr : Rep ρ H B W w) (hsl : SlotsR ρ ss a.tmps) (ho : o.op = .call c) (hcb : c.callee = .builtin b) (h : effBuiltin P ss b c.argTypes.toList c.args.toList = some E) : Gives P ρ H B W w (execOp a.eval o) E := by
  have hargs : c.args = c.args.toList.toArray := by simp
  have htys : c.argTypes = c.argTypes.toList.toArray := by simp
  unfold effBuiltin at h
  split at h <;> try contradiction
  · split at h <;> try contradiction
    rename_i t x e1 e2
    rw [e1] at htys; rw [e2] at hargs
    split at h <;> try contradiction
    · rename_i ht
      split at h <;> try contradiction
      rename_i s es
      simp at h; subst h
      have hx := evT_RV (P := P) hsl t x
      rw [es] at hx
      refine Gives.pure (x := .int .i64 s.size) hr ?_ (by simp [RV, RV1, RC])
      simp [execOp, ho, resolve, hcb, invoke, builtin, hargs, htys, Go.Builtin.len_, run_underlying' ht, RV_str hx, goInt]
    · rename_i n e ht
      simp at h; subst h
      refine Gives.pure (x := .int .i64 n) hr ?_ (by simp [RV, RV1, RC])
      simp [execOp, ho, resolve, hcb, invoke, builtin, hargs, htys, Go.Builtin.len_, run_underlying' ht, goInt]
    · rename_i e ht
      have hx := evS_RV hsl x
      split at h <;> try contradiction
      · rename_i k p n cap es
        simp at h; subst h
        rw [es] at hx
        simp only [RV, RV1, RC] at hx
        obtain ⟨b, hb, e2⟩ := hx
        simp at e2
        refine Gives.pure (x := .int .i64 n) hr ?_ (by simp [RV, RV1, RC])
        simp [execOp, ho, resolve, hcb, invoke, builtin, hargs, htys, Go.Builtin.len_, run_underlying' ht, e2, goInt]
      · rename_i es
        simp at h; subst h
        rw [es] at hx
        simp only [RV, RV1, RC] at hx
        simp at hx
        refine Gives.pure (x := .int .i64 0) hr ?_ (by simp [RV, RV1, RC])
        simp [execOp, ho, resolve, hcb, invoke, builtin, hargs, htys, Go.Builtin.len_, run_underlying' ht, hx, goInt]
  · cases hi : ints2 ss c.args.toList with
    | none => simp [hi] at h
    | some r =>
      simp [hi] at h; subst h
      obtain ⟨x, y, e, hx, hy⟩ := ints2_sound (a := a) hsl hi
      rw [e] at hargs
      refine Gives.pure (x := .int r.1 (if r.2.2 > r.2.1 then r.2.2 else r.2.1)) hr ?_ (by simp [RV, RV1, RC])
      simp [execOp, ho, resolve, hcb, invoke, builtin, hargs, Go.Builtin.max_, Go.Builtin.max2, hx, hy]
  · cases hi : ints2 ss c.args.toList with
    | none => simp [hi] at h
    | some r =>
      simp [hi] at h; subst h
      obtain ⟨x, y, e, hx, hy⟩ := ints2_sound (a := a) hsl hi
      rw [e] at hargs
      refine Gives.pure (x := .int r.1 (if r.2.2 < r.2.1 then r.2.2 else r.2.1)) hr ?_ (by simp [RV, RV1, RC])
      simp [execOp, ho, resolve, hcb, invoke, builtin, hargs, Go.Builtin.min_, Go.Builtin.min2, hx, hy]

/-- A text's bytes, as numbers. -/
def strL (s : ByteArray) (n : Nat) : List Int := (s.data.toList.take n).map fun b => (b.toNat : Int)
def cpyL (l : List Int) (a : Nat) (bs : List Int) : List Int := l.take a ++ bs ++ l.drop (a + bs.length)
theorem strL_length (s : ByteArray) (n : Nat) (h : n ≤ s.size) : (strL s n).length = n := by
  unfold strL
  have h : n ≤ s.data.toList.length := by rw [Array.length_toList]; exact h
  rw [List.length_map, List.length_take]
  omega
/-- A text is copied into a row of bytes. -/
def effCopy (P : Program) (sym : Bool) (ss : List AV) (lk : Nat → Option Blk) (ts : List Nat) (xs : List Operand) : Option Eff :=
  match ts, xs with
  | [t, t2], [x, y] => match P.underlying t with
    | some (.slice e) => match P.underlying e, evS ss x, evT P ss t2 y with
      | some (.int .u8), .sl k p n _, .str s => match p, lk k with
        | [(0, a, 1)], some b => match b.v, b.own with
          | .ints .u8 m l, true => (chk sym (Nat.ble (a + n) m)).map fun ob => { v := .int .i64 ((Nat.min s.size n : Nat) : Int), ob := ob, rd := [k], wr := some (k, ⟨b.t, .ints .u8 m (cpyL l a (strL s (Nat.min s.size n))), true⟩) }
          | _, _ => none
        | _, _ => none
      | _, _, _ => none
    | _ => none
  | _, _ => none
theorem effCopy_sound {sym : Bool} {c : Call} (hr : Rep ρ H B W w) (hsl : SlotsR ρ ss a.tmps) (ho : o.op = .call c) (hcb : c.callee = .builtin .copy) (h : effCopy P sym ss (hget H) c.argTypes.toList c.args.toList = some E) (hob : ∀ b ∈ E.ob, b = true) : Gives P ρ H B W w (execOp a.eval o) E := by
  have hargs : c.args = c.args.toList.toArray := by simp
  have htys : c.argTypes = c.argTypes.toList.toArray := by simp
  unfold effCopy at h
  split at h <;> try contradiction
  rename_i t t2 x y e1 e2
  rw [e1] at htys; rw [e2] at hargs
  split at h <;> try contradiction
  rename_i e ht
  split at h <;> try contradiction
  rename_i k p n cap s he ex ey
  split at h <;> try contradiction
  rename_i q b hk
  split at h <;> try contradiction
  rename_i m l hbv hown
  cases hc : chk sym (Nat.ble (q + n) m) with
  | none => simp [hc] at h
  | some ob =>
    simp [hc] at h; subst h
    have hle := Nat.le_of_ble_eq_true (chk_sound hc hob)
    have hx := evS_RV hsl x
    have hy := evT_RV (P := P) hsl t2 y
    rw [ex] at hx
    rw [ey] at hy
    simp only [RV, RV1, RC] at hx
    obtain ⟨bb, hb, e3⟩ := hx
    simp at e3
    obtain ⟨bb', cs, mk, hb', hh, hrc, hO⟩ := hr.blk k b hk
    rw [hb] at hb'; simp at hb'; subst hb'
    obtain ⟨_, rfl⟩ := hO hown
    rw [hbv] at hrc
    simp only [RC] at hrc
    obtain ⟨hlen, rfl⟩ := hrc
    obtain ⟨z, hz⟩ : ∃ z, Nat.min s.size n = z := ⟨_, rfl⟩
    have hzs : z ≤ s.size := by rw [← hz]; exact Nat.min_le_left _ _
    have hzn : z ≤ n := by rw [← hz]; exact Nat.min_le_right _ _
    have hbl := strL_length s z hzs
    have hsplit : l = l.take q ++ (l.drop q).take z ++ l.drop (q + z) := by
      rw [List.append_assoc, ← List.drop_drop, List.take_append_drop, List.take_append_drop]
    have hh2 : w.heap[bb]? = some (.cells ((l.take q).map (Value.int .u8) ++ ((l.drop q).take z).map (Value.int .u8) ++ (l.drop (q + z)).map (Value.int .u8)).toArray b.t (0, 0)) := by
      rw [hh]; congr 3; rw [← List.map_append, ← List.map_append, ← hsplit]
    have hst := run_store_part (P := P) (p := [(0, q, 1)]) (cc := (strL s z).map (Value.int .u8)) hh2 (by simp [off]; omega) (by simp [hbl]; omega) (by
      intro v hv
      obtain ⟨i, _, rfl⟩ := List.mem_map.1 hv
      rfl)
    have hrow : RC ρ (.ints .u8 m (cpyL l q (strL s z))) ((l.take q).map (Value.int .u8) ++ (strL s z).map (Value.int .u8) ++ (l.drop (q + z)).map (Value.int .u8)) := by
      simp only [RC, cpyL, hbl, List.map_append]
      refine ⟨?_, trivial⟩
      simp [hbl]; omega
    have hset := hr.setRow (v := .ints .u8 m (cpyL l q (strL s z))) hk hb hown hrow
    obtain ⟨w2, hw2⟩ : ∃ w2, w.setRow bb ((l.take q).map (Value.int .u8) ++ (strL s z).map (Value.int .u8) ++ (l.drop (q + z)).map (Value.int .u8)).toArray = w2 := ⟨_, rfl⟩
    rw [hw2] at hst hset
    refine ⟨.int .i64 ((z : Nat) : Int), ρ, w2, .inl ?_, Env.le.refl ρ, by simp [RV, RV1, RC, hz], ?_⟩
    · have hcells : List.take z (List.map (fun b : UInt8 => Value.int .u8 (b.toNat : Int)) s.data.toList) = (strL s z).map (Value.int .u8) := by
        unfold strL
        rw [List.map_map, List.map_take]
        rfl
      simp [execOp, ho, resolve, hcb, invoke, builtin, hargs, htys, Go.Builtin.copy_, run_underlying' ht, e3, RV_str hy, Go.Builtin.lenOf, Go.Builtin.firstCells, run_sizeOf' he, hz, goInt]
      rw [hcells, hst]
      rfl
    · simp only [Eff.app, hz]
      rw [hown] at hset
      exact hset

/-- One operation but for calls of functions. -/
def effOp (P : Program) (sym : Bool) (key : Nat) (ss : List AV) (lk : Nat → Option Blk) (o : Oper) : Option Eff :=
  match o.op with
  | .move x | .assign x => effMove P ss o.type x
  | .pick c x y => effPick P ss o.type c x y
  | .alloc T => effAlloc P lk key T
  | .box T x => effBox P ss lk key T x
  | .build T ps => effBuild P ss T ps.toList
  | .buildSlice T n ps => effBuildSlice P ss lk key T n ps.toList
  | .makeSlice T x y => effMakeSlice P sym ss lk key T x y
  | .load T x => effLoad P sym ss lk T x
  | .store T x y => effStore P sym ss lk T x y
  | .nilCheck x => effNilCheck ss x
  | .binOp op T x y _ => effBin P sym ss op T x y
  | .unOp op _ x => effUn ss op x
  | .convert S T x => effConvert P sym ss lk S T x
  | .sliceToArrayPointer T x => effArrPtr P ss T x
  | .makeFunc f l c => effMakeFunc ss f l.toList c.toList
  | .slice T x lo hi mx => effSlice P sym ss T x lo hi mx
  | .fieldAddr S x f => effFieldAddr P ss S x f
  | .field S x f => effField P sym ss S x f
  | .indexAddr T x i => effIndexAddr P sym ss T x i
  | .index T x i => effIndex P sym ss T x i
  | .extract x i => effExtract ss x i
  | .call c => match c.callee with
    | .builtin b => match b with
      | .copy => effCopy P sym ss lk c.argTypes.toList c.args.toList
      | b => effBuiltin P ss b c.argTypes.toList c.args.toList
    | _ => none
  | _ => none

theorem effOp_sound {sym : Bool} {key : Nat} (hr : Rep ρ H B W w) (hsl : SlotsR ρ ss a.tmps) (h : effOp P sym key ss (hget H) o = some E) (hob : ∀ b ∈ E.ob, b = true) :
    Gives P ρ H B W w (execOp a.eval o) E := by
  unfold effOp at h
  split at h <;> try contradiction
  · exact effMove_sound hr hsl (.inl ‹_›) h
  · exact effMove_sound hr hsl (.inr ‹_›) h
  · exact effPick_sound hr hsl ‹_› h
  · exact effAlloc_sound hr ‹_› h
  · exact effBox_sound hr hsl ‹_› h
  · exact effBuild_sound hr hsl ‹_› h
  · exact effBuildSlice_sound hr hsl ‹_› h
  · exact effMakeSlice_sound hr hsl ‹_› h hob
  · exact effLoad_sound hr hsl ‹_› h hob
  · exact effStore_sound hr hsl ‹_› h hob
  · exact effNilCheck_sound hr hsl ‹_› h
  · exact effBin_sound hr hsl ‹_› h hob
  · exact effUn_sound hr hsl ‹_› h
  · exact effConvert_sound hr hsl ‹_› h hob
  · exact effArrPtr_sound hr hsl ‹_› h
  · exact effMakeFunc_sound hr hsl ‹_› h
  · exact effSlice_sound hr hsl ‹_› h hob
  · exact effFieldAddr_sound hr hsl ‹_› h
  · exact effField_sound hr hsl ‹_› h hob
  · exact effIndexAddr_sound hr hsl ‹_› h hob
  · exact effIndex_sound hr hsl ‹_› h hob
  · exact effExtract_sound hr hsl ‹_› h
  · split at h <;> try contradiction
    split at h
    · exact effCopy_sound hr hsl ‹_› ‹_› h hob
    · exact effBuiltin_sound hr hsl ‹_› ‹_› h
end
end Go.Proofs.Ytglcjmnkhmdlhaa

