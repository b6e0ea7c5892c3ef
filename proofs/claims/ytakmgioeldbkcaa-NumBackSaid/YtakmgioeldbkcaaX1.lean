/- The values of a symbolic run: what they stand for, and how a part of one is read and written. -/
import Derived.WalkKit
namespace Go.Proofs.Ytakmgioeldbkcaa
open Go Go.RowKit

/-- A value of the symbolic run. 'u': a number of 256 bits, as four parts. 'ints': a row of integers of one kind. 'ptr k p': the place 'p' in the block that is called 'k'. 'any': nothing is known. -/
inductive AV where
  | any
  | undef
  | bool (b : Bool)
  | int (k : IntKind) (n : Int)
  | str (s : ByteArray)
  | u (x : BitVec 256)
  | ints (k : IntKind) (n : Nat) (l : List Int)
  | agg (l : List AV)
  | tup (l : List AV)
  | ptr (k : Nat) (p : List (Nat × Nat × Nat))
  | nilp
  | sl (k : Nat) (p : List (Nat × Nat × Nat)) (len cap : Nat)
  | nilsl
  | fn (f : Nat) (cap : List AV)
  | nilfn
  | raw (v : Value)

abbrev Env := Nat → Option Nat
abbrev Path := List (Nat × Nat × Nat)

def off : Path → Nat
  | [] => 0
  | (b, i, s) :: p => b + i * s + off p

def limb (x : BitVec 256) (i : Nat) : Int := ((x.toNat / 2 ^ (64 * i) % 2 ^ 64 : Nat) : Int)
def limbs (x : BitVec 256) : List Value := [.int .u64 (limb x 0), .int .u64 (limb x 1), .int .u64 (limb x 2), .int .u64 (limb x 3)]

mutual
def AV.size : AV → Nat
  | .agg l => AV.sizeL l
  | .u _ => 4
  | .ints _ n _ => n
  | _ => 1
def AV.sizeL : List AV → Nat
  | [] => 0
  | v :: l => v.size + AV.sizeL l
end

def AV.isAgg : AV → Bool
  | .agg _ | .u _ | .ints .. => true
  | _ => false

/-- One cell that can be stored. -/
def AV.one : AV → Bool
  | .agg _ | .u _ | .ints .. | .tup _ | .undef | .any => false
  | _ => true

mutual
/-- 'v', laid out in cells. -/
def RC (ρ : Env) : AV → List Value → Prop
  | .agg l, cs => RCs ρ l cs
  | .u y, cs => cs = limbs y
  | .ints k n l, cs => l.length = n ∧ cs = l.map (Value.int k)
  | .bool b, cs => cs = [.bool b]
  | .int k n, cs => cs = [.int k n]
  | .str s, cs => cs = [.string s]
  | .ptr k p, cs => ∃ b, ρ k = some b ∧ cs = [.pointer (some ⟨b, off p, none⟩)]
  | .nilp, cs => cs = [.pointer none]
  | .sl k p len cap, cs => ∃ b, ρ k = some b ∧ cs = [.slice (some ⟨b, off p, none⟩) len cap]
  | .nilsl, cs => cs = [.slice none 0 0]
  | .fn f cap, cs => ∃ xs, RCs ρ cap xs ∧ cs = [.func (.func f) #[] xs.toArray]
  | .nilfn, cs => cs = [.nilFunc]
  | .raw v, cs => v.oneCell' = true ∧ cs = [v]
  | .any, cs => ∃ x : Value, x.oneCell' = true ∧ cs = [x]
  | .undef, _ => False
  | .tup _, _ => False
def RCs (ρ : Env) : List AV → List Value → Prop
  | [], cs => cs = []
  | v :: l, cs => ∃ c1 c2, RC ρ v c1 ∧ RCs ρ l c2 ∧ cs = c1 ++ c2
end

/-- 'v' is the value 'x' of a slot (no tuple). -/
def RV1 (ρ : Env) (v : AV) (x : Value) : Prop :=
  match v with
  | .any => True
  | .undef => x = undef
  | .agg l => ∃ cs, RCs ρ l cs ∧ x = .agg cs.toArray
  | .u y => x = .agg (limbs y).toArray
  | .ints k n l => l.length = n ∧ x = .agg (l.map (Value.int k)).toArray
  | .tup _ => False
  | v => RC ρ v [x]

def RV1s (ρ : Env) : List AV → List Value → Prop
  | [], xs => xs = []
  | v :: l, xs => ∃ x ys, RV1 ρ v x ∧ RV1s ρ l ys ∧ xs = x :: ys

def RV (ρ : Env) (v : AV) (x : Value) : Prop :=
  match v with
  | .tup l => ∃ xs, RV1s ρ l xs ∧ x = .tuple xs.toArray
  | v => RV1 ρ v x

def Env.le (ρ ρ' : Env) : Prop := ∀ k b, ρ k = some b → ρ' k = some b
theorem Env.le.refl (ρ : Env) : Env.le ρ ρ := fun _ _ h => h
theorem Env.le.trans {a b c : Env} (h : Env.le a b) (g : Env.le b c) : Env.le a c := fun k x e => g k x (h k x e)

mutual
theorem RC.mono {ρ ρ' : Env} (h : Env.le ρ ρ') : ∀ (v : AV) (cs : List Value), RC ρ v cs → RC ρ' v cs
  | .agg l, cs, hr => by simp only [RC] at *; exact RCs.mono h l cs hr
  | .u y, cs, hr => by simpa only [RC] using hr
  | .ints k n l, cs, hr => by simpa only [RC] using hr
  | .bool b, cs, hr => by simpa only [RC] using hr
  | .int k n, cs, hr => by simpa only [RC] using hr
  | .str s, cs, hr => by simpa only [RC] using hr
  | .ptr k p, cs, hr => by simp only [RC] at *; obtain ⟨b, hb, e⟩ := hr; exact ⟨b, h k b hb, e⟩
  | .nilp, cs, hr => by simpa only [RC] using hr
  | .sl k p len cap, cs, hr => by simp only [RC] at *; obtain ⟨b, hb, e⟩ := hr; exact ⟨b, h k b hb, e⟩
  | .nilsl, cs, hr => by simpa only [RC] using hr
  | .fn f cap, cs, hr => by simp only [RC] at *; obtain ⟨xs, hx, e⟩ := hr; exact ⟨xs, RCs.mono h cap xs hx, e⟩
  | .nilfn, cs, hr => by simpa only [RC] using hr
  | .raw v, cs, hr => by simpa only [RC] using hr
  | .any, cs, hr => by simpa only [RC] using hr
  | .undef, cs, hr => by simp only [RC] at hr
  | .tup l, cs, hr => by simp only [RC] at hr
theorem RCs.mono {ρ ρ' : Env} (h : Env.le ρ ρ') : ∀ (l : List AV) (cs : List Value), RCs ρ l cs → RCs ρ' l cs
  | [], cs, hr => by simpa only [RCs] using hr
  | v :: l, cs, hr => by
    simp only [RCs] at *
    obtain ⟨c1, c2, h1, h2, e⟩ := hr
    exact ⟨c1, c2, RC.mono h v c1 h1, RCs.mono h l c2 h2, e⟩
end

theorem RV1.mono {ρ ρ' : Env} (h : Env.le ρ ρ') {v : AV} {x : Value} (hr : RV1 ρ v x) : RV1 ρ' v x := by
  cases v <;> simp only [RV1] at * <;> first | exact hr | exact RC.mono h _ _ hr | (obtain ⟨cs, h1, e⟩ := hr; exact ⟨cs, RCs.mono h _ _ h1, e⟩)

theorem RV1s.mono {ρ ρ' : Env} (h : Env.le ρ ρ') : ∀ (l : List AV) (xs : List Value), RV1s ρ l xs → RV1s ρ' l xs
  | [], xs, hr => by simpa only [RV1s] using hr
  | v :: l, xs, hr => by
    simp only [RV1s] at *
    obtain ⟨x, ys, h1, h2, e⟩ := hr
    exact ⟨x, ys, h1.mono h, RV1s.mono h l ys h2, e⟩

theorem RV.mono {ρ ρ' : Env} (h : Env.le ρ ρ') {v : AV} {x : Value} (hr : RV ρ v x) : RV ρ' v x := by
  cases v <;> simp only [RV] at * <;> first | exact hr.mono h | (obtain ⟨xs, h1, e⟩ := hr; exact ⟨xs, RV1s.mono h _ _ h1, e⟩)

theorem Value.cells_size (v : Value) (h : v.oneCell' = true) : v.cells = #[v] := by cases v <;> first | rfl | simp [Value.oneCell'] at h

mutual
theorem RC.length {ρ : Env} : ∀ (v : AV) (cs : List Value), RC ρ v cs → cs.length = v.size
  | .agg l, cs, hr => by simp only [RC] at hr; simp only [AV.size]; exact RCs.length l cs hr
  | .u y, cs, hr => by simp only [RC] at hr; subst hr; rfl
  | .ints k n l, cs, hr => by simp only [RC] at hr; obtain ⟨h, rfl⟩ := hr; simp [AV.size, h]
  | .bool b, cs, hr => by simp only [RC] at hr; subst hr; rfl
  | .int k n, cs, hr => by simp only [RC] at hr; subst hr; rfl
  | .str s, cs, hr => by simp only [RC] at hr; subst hr; rfl
  | .ptr k p, cs, hr => by simp only [RC] at hr; obtain ⟨b, hb, rfl⟩ := hr; rfl
  | .nilp, cs, hr => by simp only [RC] at hr; subst hr; rfl
  | .sl k p len cap, cs, hr => by simp only [RC] at hr; obtain ⟨b, hb, rfl⟩ := hr; rfl
  | .nilsl, cs, hr => by simp only [RC] at hr; subst hr; rfl
  | .fn f cap, cs, hr => by simp only [RC] at hr; obtain ⟨xs, hx, rfl⟩ := hr; rfl
  | .nilfn, cs, hr => by simp only [RC] at hr; subst hr; rfl
  | .raw v, cs, hr => by simp only [RC] at hr; obtain ⟨_, rfl⟩ := hr; rfl
  | .any, cs, hr => by simp only [RC] at hr; obtain ⟨x, _, rfl⟩ := hr; rfl
  | .undef, cs, hr => by simp only [RC] at hr
  | .tup l, cs, hr => by simp only [RC] at hr
theorem RCs.length {ρ : Env} : ∀ (l : List AV) (cs : List Value), RCs ρ l cs → cs.length = AV.sizeL l
  | [], cs, hr => by simp only [RCs] at hr; subst hr; rfl
  | v :: l, cs, hr => by
    simp only [RCs] at hr
    obtain ⟨c1, c2, h1, h2, rfl⟩ := hr
    simp only [List.length_append, AV.sizeL]
    rw [RC.length v c1 h1, RCs.length l c2 h2]
end

/-- A value that may be laid into memory. -/
theorem RV.cells {ρ : Env} {v : AV} {x : Value} (h : RV ρ v x) (hc : (v.isAgg || v.one) = true) : RC ρ v x.cells.toList := by
  cases v <;> simp only [AV.isAgg, AV.one] at hc <;> try (exact absurd hc (by decide))
  all_goals simp only [RV, RV1, RC] at h ⊢
  case u y => subst h; simp [Value.cells]
  case ints k n l => obtain ⟨h1, rfl⟩ := h; exact ⟨h1, by simp [Value.cells]⟩
  case agg l => obtain ⟨cs, h1, rfl⟩ := h; simpa [Value.cells] using h1
  case ptr k p => obtain ⟨b, hb, e⟩ := h; exact ⟨b, hb, by simp at e; subst e; rfl⟩
  case sl k p len cap => obtain ⟨b, hb, e⟩ := h; exact ⟨b, hb, by simp at e; subst e; rfl⟩
  case fn f cap => obtain ⟨xs, hx, e⟩ := h; exact ⟨xs, hx, by simp at e; subst e; rfl⟩
  case raw v => obtain ⟨h1, e⟩ := h; simp at e; subst e; exact ⟨h1, by rw [Value.cells_size _ h1]⟩
  all_goals (simp at h; subst h; rfl)

theorem RV.of_cells {ρ : Env} {v : AV} {cs : List Value} (h : RC ρ v cs) (ha : v.isAgg = true) : RV ρ v (.agg cs.toArray) := by
  cases v <;> simp only [AV.isAgg] at ha <;> try (exact absurd ha (by decide))
  all_goals simp only [RV, RV1, RC] at h ⊢
  case u y => subst h; rfl
  case ints k n l => obtain ⟨h1, rfl⟩ := h; exact ⟨h1, rfl⟩
  case agg l => exact ⟨cs, h, rfl⟩

theorem RV.of_cell {ρ : Env} {v : AV} {cs : List Value} (h : RC ρ v cs) (ha : v.one = true) : ∃ x, cs = [x] ∧ RV ρ v x ∧ x.oneCell' = true := by
  cases v <;> simp only [AV.one] at ha <;> try (exact absurd ha (by decide))
  all_goals simp only [RV, RV1, RC] at h ⊢
  case ptr k p => obtain ⟨b, hb, e⟩ := h; exact ⟨_, e, ⟨b, hb, rfl⟩, rfl⟩
  case sl k p len cap => obtain ⟨b, hb, e⟩ := h; exact ⟨_, e, ⟨b, hb, rfl⟩, rfl⟩
  case fn f cap => obtain ⟨xs, hx, e⟩ := h; exact ⟨_, e, ⟨xs, hx, rfl⟩, rfl⟩
  case raw v => obtain ⟨h1, e⟩ := h; exact ⟨_, e, ⟨h1, rfl⟩, h1⟩
  all_goals (subst h; exact ⟨_, rfl, rfl, rfl⟩)

/-! ### A part of a value -/

/-- A test: where 'sym' it is noted down, else it must come out by itself. -/
def chk (sym : Bool) (c : Bool) : Option (List Bool) :=
  match sym with
  | true => some [c]
  | false => match c with
    | true => some []
    | false => none

theorem chk_sound {sym c : Bool} {ob : List Bool} (h : chk sym c = some ob) (hob : ∀ b ∈ ob, b = true) : c = true := by
  unfold chk at h
  cases sym <;> cases c <;> simp at h
  · rfl
  · subst h; simp at hob
  · rfl

def isNil {α : Type} : List α → Bool
  | [] => true
  | _ => false

/-- The part of 'v' at a path. -/
def AV.get (sym : Bool) : AV → Path → Option (List Bool × AV)
  | v, [] => some ([], v)
  | .agg l, (b, i, s) :: p => match l[i]? with
    | some c => match Nat.beq (b + i * s) (AV.sizeL (l.take i)) with
      | true => c.get sym p
      | false => none
    | none => none
  | .u x, (b, i, s) :: p => match isNil p && Nat.beq b 0 && Nat.beq s 1 with
    | true => (chk sym (Nat.ble (i + 1) 4)).map fun ob => (ob, .int .u64 (limb x i))
    | false => none
  | .ints k n l, (b, i, s) :: p => match isNil p && Nat.beq b 0 && Nat.beq s 1 with
    | true => (chk sym (Nat.ble (i + 1) n)).map fun ob => (ob, .int k (l.getD i 0))
    | false => match isNil p && Nat.beq s 0 with
      | true => (chk sym (Nat.ble (b + i) n)).map fun ob => (ob, .ints k i ((l.drop b).take i))
      | false => none
  | _, _ :: _ => none
termination_by structural _ p => p

def kindEq : IntKind → IntKind → Bool
  | .i8, .i8 | .i16, .i16 | .i32, .i32 | .i64, .i64 | .u8, .u8 | .u16, .u16 | .u32, .u32 | .u64, .u64 => true
  | _, _ => false
theorem kindEq_eq {a b : IntKind} (h : kindEq a b = true) : a = b := by cases a <;> cases b <;> first | rfl | simp [kindEq] at h
theorem kindEq_self (a : IntKind) : kindEq a a = true := by cases a <;> rfl

def AV.asInt (k : IntKind) : AV → Option Int
  | .int k' n => match kindEq k k' with
    | true => some n
    | false => none
  | _ => none
theorem AV.asInt_eq {k : IntKind} {c : AV} {m : Int} (h : c.asInt k = some m) : c = .int k m := by
  cases c <;> simp only [AV.asInt] at h <;> try contradiction
  split at h
  · rename_i hk; simp at h; rw [kindEq_eq hk, h]
  · contradiction

/-- 'v' with its part at a path turned into 'c'. -/
def AV.set (sym : Bool) : AV → Path → AV → Option (List Bool × AV)
  | v, [], c => match Nat.beq v.size c.size && (c.isAgg || c.one) with
    | true => some ([], c)
    | false => none
  | .agg l, (b, i, s) :: p, c => match l[i]? with
    | some d => match Nat.beq (b + i * s) (AV.sizeL (l.take i)) with
      | true => (d.set sym p c).map fun r => (r.1, .agg (l.set i r.2))
      | false => none
    | none => none
  | .u x, (b, i, s) :: p, c => match c.asInt .u64 with
    | some m => match isNil p && Nat.beq b 0 && Nat.beq s 1 with
      | true => (chk sym (Nat.ble (i + 1) 4)).map fun ob => (ob, .ints .u64 4 ([limb x 0, limb x 1, limb x 2, limb x 3].set i m))
      | false => none
    | none => none
  | .ints k n l, (b, i, s) :: p, c => match c.asInt k with
    | some m => match isNil p && Nat.beq b 0 && Nat.beq s 1 with
      | true => (chk sym (Nat.ble (i + 1) n)).map fun ob => (ob, .ints k n (l.set i m))
      | false => none
    | none => none
  | _, _ :: _, _ => none
termination_by structural _ p => p

theorem ints_set {ρ : Env} {k : IntKind} {n i : Nat} {l : List Int} {m : Int} {cs : List Value} (h : RC ρ (.ints k n l) cs) (hi : i < n) :
    ∃ c1 c2 c3, cs = c1 ++ c2 ++ c3 ∧ c1.length = off [(0, i, 1)] ∧ c2.length = 1 ∧ RC ρ (.ints k n (l.set i m)) (c1 ++ [.int k m] ++ c3) := by
  simp only [RC] at h
  obtain ⟨hl, rfl⟩ := h
  have hil : i < l.length := by omega
  refine ⟨(l.take i).map (Value.int k), [.int k (l.getD i 0)], (l.drop (i + 1)).map (Value.int k), ?_, by simp [off]; omega, rfl, ?_⟩
  · have hl2 : l = l.take i ++ [l.getD i 0] ++ l.drop (i + 1) := by simp [List.getD, List.getElem?_eq_getElem hil]
    conv => lhs; rw [hl2]
    simp
  · simp only [RC]
    refine ⟨by simpa using hl, ?_⟩
    rw [List.set_eq_take_append_cons_drop, if_pos hil]
    simp

theorem RC.u_ints {ρ : Env} {x : BitVec 256} {cs : List Value} (h : RC ρ (.u x) cs) : RC ρ (.ints .u64 4 [limb x 0, limb x 1, limb x 2, limb x 3]) cs := by
  simp only [RC] at h ⊢
  subst h
  exact ⟨rfl, rfl⟩

theorem RCs.split {ρ : Env} : ∀ (l : List AV) (cs : List Value) (i : Nat) (c : AV), RCs ρ l cs → l[i]? = some c →
    ∃ c1 c2 c3, cs = c1 ++ c2 ++ c3 ∧ c1.length = AV.sizeL (l.take i) ∧ RC ρ c c2 ∧ ∀ d c2', RC ρ d c2' → RCs ρ (l.set i d) (c1 ++ c2' ++ c3)
  | [], cs, i, c, _, hi => by simp at hi
  | v :: l, cs, 0, c, h, hi => by
    simp only [RCs] at h
    obtain ⟨a1, a2, h1, h2, rfl⟩ := h
    simp at hi; subst hi
    refine ⟨[], a1, a2, by simp, rfl, h1, fun d c2' hd => ?_⟩
    simp only [List.set_cons_zero, RCs]
    exact ⟨c2', a2, hd, h2, by simp⟩
  | v :: l, cs, i + 1, c, h, hi => by
    simp only [RCs] at h
    obtain ⟨a1, a2, h1, h2, rfl⟩ := h
    obtain ⟨c1, c2, c3, rfl, hl, hc, hs⟩ := RCs.split l a2 i c h2 (by simpa using hi)
    refine ⟨a1 ++ c1, c2, c3, by simp, ?_, hc, fun d c2' hd => ?_⟩
    · simp only [List.length_append, List.take_succ_cons, AV.sizeL, hl, RC.length v a1 h1]
    · simp only [List.set_cons_succ, RCs]
      exact ⟨a1, c1 ++ c2' ++ c3, h1, hs d c2' hd, by simp⟩

theorem isNil_nil {α : Type} {l : List α} (h : isNil l = true) : l = [] := by cases l <;> first | rfl | simp [isNil] at h

theorem AV.get_sound {ρ : Env} (sym : Bool) : ∀ (p : Path) (v : AV) (cs : List Value) (ob : List Bool) (c : AV), RC ρ v cs → v.get sym p = some (ob, c) → (∀ b ∈ ob, b = true) →
    ∃ c1 c2 c3, cs = c1 ++ c2 ++ c3 ∧ c1.length = off p ∧ RC ρ c c2
  | [], v, cs, ob, c, h, hg, _ => by
    unfold AV.get at hg; simp at hg; obtain ⟨rfl, rfl⟩ := hg
    exact ⟨[], cs, [], by simp, rfl, h⟩
  | (b, i, s) :: p, v, cs, ob, c, h, hg, hob => by
    cases v <;> unfold AV.get at hg <;> (try simp only at hg) <;> try contradiction
    case agg l =>
      split at hg
      · rename_i d hd
        split at hg
        · rename_i hb
          simp only [RC] at h
          obtain ⟨c1, c2, c3, rfl, hl, hc, _⟩ := RCs.split l cs i d h hd
          obtain ⟨e1, e2, e3, rfl, hl2, hc2⟩ := AV.get_sound sym p d c2 ob c hc hg hob
          refine ⟨c1 ++ e1, e2, e3 ++ c3, by simp, ?_, hc2⟩
          have := Nat.eq_of_beq_eq_true hb
          simp [off, hl, hl2, this]
        · contradiction
      · contradiction
    case u x =>
      split at hg
      · rename_i hb
        simp only [Bool.and_eq_true] at hb
        obtain ⟨⟨h1, h2⟩, h3⟩ := hb
        have hp := isNil_nil h1
        have hb0 := Nat.eq_of_beq_eq_true h2
        have hs1 := Nat.eq_of_beq_eq_true h3
        subst hp hb0 hs1
        cases hk : chk sym (Nat.ble (i + 1) 4) with
        | none => simp [hk] at hg
        | some o =>
          simp [hk] at hg
          obtain ⟨rfl, rfl⟩ := hg
          have hi := Nat.le_of_ble_eq_true (chk_sound hk hob)
          simp only [RC] at h
          subst h
          have : i = 0 ∨ i = 1 ∨ i = 2 ∨ i = 3 := by omega
          rcases this with rfl | rfl | rfl | rfl
          · exact ⟨[], [.int .u64 (limb x 0)], [.int .u64 (limb x 1), .int .u64 (limb x 2), .int .u64 (limb x 3)], rfl, rfl, by simp [RC]⟩
          · exact ⟨[.int .u64 (limb x 0)], [.int .u64 (limb x 1)], [.int .u64 (limb x 2), .int .u64 (limb x 3)], rfl, rfl, by simp [RC]⟩
          · exact ⟨[.int .u64 (limb x 0), .int .u64 (limb x 1)], [.int .u64 (limb x 2)], [.int .u64 (limb x 3)], rfl, rfl, by simp [RC]⟩
          · exact ⟨[.int .u64 (limb x 0), .int .u64 (limb x 1), .int .u64 (limb x 2)], [.int .u64 (limb x 3)], [], rfl, rfl, by simp [RC]⟩
      · contradiction
    case ints k n l =>
      split at hg
      · rename_i hb
        simp only [Bool.and_eq_true] at hb
        obtain ⟨⟨h1, h2⟩, h3⟩ := hb
        have hp := isNil_nil h1
        have hb0 := Nat.eq_of_beq_eq_true h2
        have hs1 := Nat.eq_of_beq_eq_true h3
        subst hp hb0 hs1
        cases hk : chk sym (Nat.ble (i + 1) n) with
        | none => simp [hk] at hg
        | some o =>
          simp [hk] at hg
          obtain ⟨rfl, rfl⟩ := hg
          have hi := Nat.le_of_ble_eq_true (chk_sound hk hob)
          simp only [RC] at h
          obtain ⟨hl, rfl⟩ := h
          have hil : i < l.length := by omega
          refine ⟨(l.take i).map (Value.int k), [.int k (l.getD i 0)], (l.drop (i + 1)).map (Value.int k), ?_, by simp [off]; omega, by simp [RC, List.getD, List.getElem?_eq_getElem hil]⟩
          have hl2 : l = l.take i ++ [l.getD i 0] ++ l.drop (i + 1) := by
            simp [List.getD, List.getElem?_eq_getElem hil]
          conv => lhs; rw [hl2]
          simp
      · split at hg
        · rename_i hb
          simp only [Bool.and_eq_true] at hb
          obtain ⟨h1, h3⟩ := hb
          have hp := isNil_nil h1
          have hs1 := Nat.eq_of_beq_eq_true h3
          subst hp hs1
          cases hk : chk sym (Nat.ble (b + i) n) with
          | none => simp [hk] at hg
          | some o =>
            simp [hk] at hg
            obtain ⟨rfl, rfl⟩ := hg
            have hi := Nat.le_of_ble_eq_true (chk_sound hk hob)
            simp only [RC] at h
            obtain ⟨hl, rfl⟩ := h
            refine ⟨(l.take b).map (Value.int k), ((l.drop b).take i).map (Value.int k), ((l.drop b).drop i).map (Value.int k), ?_, by simp [off]; omega, ?_⟩
            · rw [← List.map_append, ← List.map_append, List.append_assoc, List.take_append_drop, List.take_append_drop]
            · simp only [RC]
              exact ⟨by simp; omega, trivial⟩
        · contradiction

theorem AV.set_sound {ρ : Env} (sym : Bool) : ∀ (p : Path) (v : AV) (cs : List Value) (c : AV) (cc : List Value) (ob : List Bool) (v' : AV), RC ρ v cs → RC ρ c cc →
    v.set sym p c = some (ob, v') → (∀ b ∈ ob, b = true) →
    ∃ c1 c2 c3, cs = c1 ++ c2 ++ c3 ∧ c1.length = off p ∧ c2.length = cc.length ∧ RC ρ v' (c1 ++ cc ++ c3)
  | [], v, cs, c, cc, ob, v', h, hc, hg, _ => by
    unfold AV.set at hg
    split at hg
    · rename_i hb
      simp at hg; obtain ⟨rfl, rfl⟩ := hg
      simp only [Bool.and_eq_true] at hb
      have := Nat.eq_of_beq_eq_true hb.1
      exact ⟨[], cs, [], by simp, rfl, by rw [RC.length _ _ h, RC.length _ _ hc, this], by simpa using hc⟩
    · contradiction
  | (b, i, s) :: p, v, cs, c, cc, ob, v', h, hc, hg, hob => by
    cases v
    case agg l =>
      unfold AV.set at hg
      (try simp only at hg)
      split at hg
      · rename_i d hd
        split at hg
        · rename_i hb
          simp only [RC] at h
          obtain ⟨c1, c2, c3, rfl, hl, hc', hset⟩ := RCs.split l cs i d h hd
          cases hs : d.set sym p c with
          | none => simp [hs] at hg
          | some r =>
            simp [hs] at hg
            obtain ⟨rfl, rfl⟩ := hg
            obtain ⟨e1, e2, e3, rfl, hl2, hl3, hr⟩ := AV.set_sound sym p d c2 c cc r.1 r.2 hc' hc hs hob
            refine ⟨c1 ++ e1, e2, e3 ++ c3, by simp, ?_, hl3, ?_⟩
            · have := Nat.eq_of_beq_eq_true hb
              simp [off, hl, hl2, this]
            · simp only [RC]
              have := hset r.2 _ hr
              simpa [List.append_assoc] using this
        · contradiction
      · contradiction
    case u x =>
      unfold AV.set at hg
      (try simp only at hg)
      split at hg
      · rename_i m hm
        have hcm := AV.asInt_eq hm
        subst hcm
        simp only [RC] at hc
        subst hc
        split at hg
        · rename_i hb
          simp only [Bool.and_eq_true] at hb
          obtain ⟨⟨h1, h2⟩, h3⟩ := hb
          have hp := isNil_nil h1
          have hb0 := Nat.eq_of_beq_eq_true h2
          have hs1 := Nat.eq_of_beq_eq_true h3
          subst hp hb0 hs1
          cases hk : chk sym (Nat.ble (i + 1) 4) with
          | none => simp [hk] at hg
          | some o =>
            simp [hk] at hg
            obtain ⟨rfl, rfl⟩ := hg
            have hi := Nat.le_of_ble_eq_true (chk_sound hk hob)
            exact ints_set h.u_ints (by omega)
        · contradiction
      · contradiction
    case ints k n l =>
      unfold AV.set at hg
      (try simp only at hg)
      split at hg
      · rename_i m hm
        have hcm := AV.asInt_eq hm
        subst hcm
        simp only [RC] at hc
        subst hc
        split at hg
        · rename_i hb
          simp only [Bool.and_eq_true] at hb
          obtain ⟨⟨h1, h2⟩, h3⟩ := hb
          have hp := isNil_nil h1
          have hb0 := Nat.eq_of_beq_eq_true h2
          have hs1 := Nat.eq_of_beq_eq_true h3
          subst hp hb0 hs1
          cases hk : chk sym (Nat.ble (i + 1) n) with
          | none => simp [hk] at hg
          | some o =>
            simp [hk] at hg
            obtain ⟨rfl, rfl⟩ := hg
            have hi := Nat.le_of_ble_eq_true (chk_sound hk hob)
            exact ints_set h (by omega)
        · contradiction
      · contradiction
    all_goals (unfold AV.set at hg; (try simp only at hg); contradiction)

end Go.Proofs.Ytakmgioeldbkcaa
