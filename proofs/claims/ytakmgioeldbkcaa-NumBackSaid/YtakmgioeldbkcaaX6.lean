/- The operations of a symbolic run, one by one: the rest. -/
import Derived.Test.YtakmgioeldbkcaaX5
namespace Go.Proofs.Ytakmgioeldbkcaa
open Go Go.RowKit

section
variable {P : Program} {ρ : Env} {H : Heap} {B : Nat} {W w : World} {ss : List AV} {a : Act} {o : Oper} {E : Eff}

/-- Equality of two values of a type. -/
def eqAV (P : Program) (sym : Bool) (T : Nat) (x y : AV) : Option (List Bool × Bool) :=
  match P.underlying T with
  | some .bool => match x, y with
    | .bool p, .bool q => some ([], p == q)
    | _, _ => none
  | some (.array _ _) => match intsAlike P T with
    | some (n, k) => match kindEq k .u64 && Nat.beq n 4 with
      | true => match uOf sym x, uOf sym y with
        | some (o1, p), some (o2, q) => some (o1 ++ o2, p == q)
        | _, _ => none
      | false => match x, y with
        | .ints k1 n1 l1, .ints k2 n2 l2 => match kindEq k k1 && kindEq k k2 && Nat.beq n n1 && Nat.beq n n2 with
          | true => some ([], l1 == l2)
          | false => none
        | _, _ => none
    | none => none
  | _ => none

theorem uOf_agg {sym : Bool} {v : AV} {p : BitVec 256} {ob : List Bool} (h : uOf sym v = some (ob, p)) : v.isAgg = true := by
  unfold uOf at h
  split at h <;> first | rfl | contradiction

theorem RV_u {sym : Bool} {v : AV} {p : BitVec 256} {ob : List Bool} {x : Value} (h : uOf sym v = some (ob, p)) (hob : ∀ b ∈ ob, b = true) (hv : RV ρ v x) : x = .agg (limbs p).toArray := by
  have ha := uOf_agg h
  have hc := hv.cells (by simp [ha])
  have := uOf_sound h hob hc
  cases v <;> simp only [AV.isAgg] at ha <;> try contradiction
  all_goals
    simp only [RV, RV1] at hv
  · rw [hv]; rw [hv] at this; simp [Value.cells] at this; rw [this]
  · obtain ⟨_, rfl⟩ := hv; simp [Value.cells] at this; rw [← this]

theorem limbs_beq (p q : BitVec 256) : ([limb p 0, limb p 1, limb p 2, limb p 3] == [limb q 0, limb q 1, limb q 2, limb q 3]) = (p == q) := by
  rw [Bool.eq_iff_iff]
  simp only [beq_iff_eq]
  constructor
  · intro h
    apply limbs_inj
    simp only [List.cons.injEq, and_true] at h
    obtain ⟨h0, h1, h2, h3⟩ := h
    simp only [limbs, h0, h1, h2, h3]
  · rintro rfl; rfl

theorem equal_u {T : Nat} (hT : intsAlike P T = some (4, .u64)) (p q : BitVec 256) :
    (Op.equal T (.agg (limbs p).toArray) (.agg (limbs q).toArray)).run P w = .ok (p == q) w := by
  have := equal_ints (w := w) hT [limb p 0, limb p 1, limb p 2, limb p 3] [limb q 0, limb q 1, limb q 2, limb q 3] rfl rfl
  rw [limbs_beq] at this
  exact this

theorem eqAV_sound {sym : Bool} {T : Nat} {u v : AV} {x y : Value} {ob : List Bool} {r : Bool} (h : eqAV P sym T u v = some (ob, r)) (hob : ∀ b ∈ ob, b = true) (hu : RV ρ u x) (hv : RV ρ v y) :
    (Op.equal T x y).run P w = .ok r w := by
  unfold eqAV at h
  split at h <;> try contradiction
  · rename_i ht
    split at h <;> try contradiction
    simp at h; obtain ⟨rfl, rfl⟩ := h
    simp only [RV, RV1, RC] at hu hv
    simp at hu hv
    subst hu hv
    exact run_equal_bool w T _ _ ht
  · split at h <;> try contradiction
    rename_i n k hT
    split at h
    · rename_i hk
      simp only [Bool.and_eq_true] at hk
      have hk1 := kindEq_eq hk.1
      have hk2 := Nat.eq_of_beq_eq_true hk.2
      subst hk1 hk2
      split at h <;> try contradiction
      rename_i o1 p o2 q h1 h2
      simp at h; obtain ⟨rfl, rfl⟩ := h
      rw [RV_u h1 (fun b hb => hob b (by simp [hb])) hu, RV_u h2 (fun b hb => hob b (by simp [hb])) hv]
      exact equal_u hT p q
    · split at h <;> try contradiction
      split at h <;> try contradiction
      rename_i hk
      simp only [Bool.and_eq_true] at hk
      obtain ⟨⟨⟨a1, a2⟩, a3⟩, a4⟩ := hk
      have a1 := kindEq_eq a1
      have a2 := kindEq_eq a2
      have a3 := Nat.eq_of_beq_eq_true a3
      have a4 := Nat.eq_of_beq_eq_true a4
      subst a1 a3
      subst a2 a4
      simp at h; obtain ⟨rfl, rfl⟩ := h
      simp only [RV, RV1] at hu hv
      obtain ⟨e1, rfl⟩ := hu
      obtain ⟨e2, rfl⟩ := hv
      exact equal_ints hT _ _ e1 e2

def strOp (sym : Bool) (op : BinOp) (x y : ByteArray) : Option (List Bool × AV) :=
  match op with
  | .add => (chk sym (Nat.ble (x.size + y.size) 9223372036854775807)).map fun ob => (ob, .str (x ++ y))
  | .eql => some ([], .bool (x.toList == y.toList))
  | .neq => some ([], .bool (!(x.toList == y.toList)))
  | _ => none

theorem strOp_sound {sym : Bool} {op : BinOp} {x y : ByteArray} {T : Nat} {ob : List Bool} {v : AV} (h : strOp sym op x y = some (ob, v)) (hob : ∀ b ∈ ob, b = true) :
    ∃ z, (binOp op T (.string x) (.string y)).run P w = .ok z w ∧ RV ρ v z := by
  cases op <;> simp only [strOp] at h <;> try contradiction
  case add =>
    cases hc : chk sym (Nat.ble (x.size + y.size) 9223372036854775807) with
    | none => simp [hc] at h
    | some q =>
      simp [hc] at h; obtain ⟨rfl, rfl⟩ := h
      have := Nat.le_of_ble_eq_true (chk_sound hc hob)
      refine ⟨.string (x ++ y), ?_, by simp [RV, RV1, RC]⟩
      simp only [binOp, Op.stringOp]
      rw [if_neg (by simp [IntKind.max, IntKind.signed, IntKind.bits]; omega)]
      rfl
  all_goals
    simp at h
    obtain ⟨rfl, rfl⟩ := h
    exact ⟨_, rfl, by simp [RV, RV1, RC]⟩

/-- Two operands that have places or none: against nil. -/
def nilOp (P : Program) (op : BinOp) (T : Nat) (x y : AV) : Option AV :=
  match op with
  | .eql => match P.underlying T with
    | some (.slice _) => match x, y with
      | .sl _ _ _ _, .nilsl => some (.bool false)
      | .nilsl, .nilsl => some (.bool true)
      | _, _ => none
    | some (.pointer _) => match x, y with
      | .ptr _ _, .nilp => some (.bool false)
      | .nilp, .nilp => some (.bool true)
      | _, _ => none
    | _ => none
  | .neq => match P.underlying T with
    | some (.slice _) => match x, y with
      | .sl _ _ _ _, .nilsl => some (.bool true)
      | .nilsl, .nilsl => some (.bool false)
      | _, _ => none
    | some (.pointer _) => match x, y with
      | .ptr _ _, .nilp => some (.bool true)
      | .nilp, .nilp => some (.bool false)
      | _, _ => none
    | _ => none
  | _ => none

def effBin (P : Program) (sym : Bool) (ss : List AV) (op : BinOp) (T : Nat) (x y : Operand) : Option Eff :=
  match evT P ss T x, evT P ss T y with
  | .int k p, .int k2 q => (arith sym op k k2 p q).map fun r => { v := r.2, ob := r.1 }
  | .str p, .str q => (strOp sym op p q).map fun r => { v := r.2, ob := r.1 }
  | u, v => match op with
    | .eql => match P.eqGuardType P.depth T with
      | false => (eqAV P sym T u v).map fun r => { v := .bool r.2, ob := r.1 }
      | true => none
    | .neq => match P.eqGuardType P.depth T with
      | false => (eqAV P sym T u v).map fun r => { v := .bool (!r.2), ob := r.1 }
      | true => none
    | _ => none

theorem RV_int {k : IntKind} {n : Int} {x : Value} (h : RV ρ (.int k n) x) : x = .int k n := by
  simp only [RV, RV1, RC] at h; simpa using h
theorem RV_str {s : ByteArray} {x : Value} (h : RV ρ (.str s) x) : x = .string s := by
  simp only [RV, RV1, RC] at h; simpa using h
theorem RV_bool {b : Bool} {x : Value} (h : RV ρ (.bool b) x) : x = .bool b := by
  simp only [RV, RV1, RC] at h; simpa using h

theorem eqAV_kind {sym : Bool} {T : Nat} {u v : AV} {x y : Value} {ob : List Bool} {r : Bool} (h : eqAV P sym T u v = some (ob, r)) (hu : RV ρ u x) (hv : RV ρ v y) :
    (∃ p q, x = .bool p ∧ y = .bool q) ∨ (∃ p q, x = .agg p ∧ y = .agg q) := by
  have agg : ∀ {u : AV} {x : Value}, u.isAgg = true → RV ρ u x → ∃ p, x = .agg p := by
    intro u x hu hx
    cases u <;> simp only [AV.isAgg] at hu <;> try contradiction
    all_goals simp only [RV, RV1] at hx
    · exact ⟨_, hx⟩
    · exact ⟨_, hx.2⟩
    · obtain ⟨cs, _, e⟩ := hx; exact ⟨_, e⟩
  unfold eqAV at h
  split at h <;> try contradiction
  · split at h <;> try contradiction
    exact .inl ⟨_, _, RV_bool hu, RV_bool hv⟩
  · split at h <;> try contradiction
    split at h
    · split at h <;> try contradiction
      rename_i h1 h2
      obtain ⟨p, hp⟩ := agg (uOf_agg h1) hu
      obtain ⟨q, hq⟩ := agg (uOf_agg h2) hv
      exact .inr ⟨p, q, hp, hq⟩
    · split at h <;> try contradiction
      obtain ⟨p, hp⟩ := agg rfl hu
      obtain ⟨q, hq⟩ := agg rfl hv
      exact .inr ⟨p, q, hp, hq⟩

theorem eqGuard_free {op : BinOp} {T : Nat} {x y : Operand} {p q : Value} (h : (∃ u v, p = .bool u ∧ q = .bool v) ∨ (∃ u v, p = .agg u ∧ q = .agg v)) (hg : P.eqGuardType P.depth T = false) :
    (eqGuard op T x y p q).run P w = .ok () w := by
  rcases h with ⟨u, v, rfl, rfl⟩ | ⟨u, v, rfl, rfl⟩
  · unfold eqGuard; split <;> rfl
  · exact run_eqGuard_agg w op T x y u v hg

theorem effBin_sound {sym : Bool} {op : BinOp} {T T2 : Nat} {x y : Operand} (hr : Rep ρ H B W w) (hsl : SlotsR ρ ss a.tmps) (ho : o.op = .binOp op T x y T2) (h : effBin P sym ss op T x y = some E) (hob : ∀ b ∈ E.ob, b = true) : Gives P ρ H B W w (execOp a.eval o) E := by
  unfold effBin at h
  have hx := evT_RV (P := P) hsl T x
  have hy := evT_RV (P := P) hsl T y
  split at h
  · rename_i k p k2 q e1 e2
    rw [e1] at hx; rw [e2] at hy
    cases ha : arith sym op k k2 p q with
    | none => simp [ha] at h
    | some r =>
      simp [ha] at h; subst h
      obtain ⟨z, hz, hv⟩ := arith_sound (P := P) (ρ := ρ) (w := w) (T := T) ha hob
      refine Gives.pure hr ?_ hv
      have hgd : (eqGuard op T x y (.int k p) (.int k2 q)).run P w = .ok () w := by unfold eqGuard; split <;> rfl
      simp [execOp, ho, RV_int hx, RV_int hy, hgd, hz]
  · rename_i p q e1 e2
    rw [e1] at hx; rw [e2] at hy
    cases ha : strOp sym op p q with
    | none => simp [ha] at h
    | some r =>
      simp [ha] at h; subst h
      obtain ⟨z, hz, hv⟩ := strOp_sound (P := P) (ρ := ρ) (w := w) (T := T) ha hob
      refine Gives.pure hr ?_ hv
      have hgd : (eqGuard op T x y (.string p) (.string q)).run P w = .ok () w := by unfold eqGuard; split <;> rfl
      simp [execOp, ho, RV_str hx, RV_str hy, hgd, hz]
  · split at h <;> try contradiction
    · split at h <;> try contradiction
      rename_i hg
      cases ha : eqAV P sym T (evT P ss T x) (evT P ss T y) with
      | none => simp [ha] at h
      | some r =>
        simp [ha] at h; subst h
        have hk := eqAV_kind ha hx hy
        have he := eqAV_sound (w := w) ha hob hx hy
        refine Gives.pure (x := .bool r.2) hr ?_ (by simp [RV, RV1, RC])
        have hgd := eqGuard_free (P := P) (w := w) (op := .eql) (T := T) (x := x) (y := y) hk hg
        have hb : (binOp .eql T (a.eval x) (a.eval y)).run P w = .ok (.bool r.2) w := by
          rcases hk with ⟨u, v, e1, e2⟩ | ⟨u, v, e1, e2⟩ <;> rw [e1, e2] at he ⊢ <;> simp [binOp, he]
        simp [execOp, ho, hgd, hb]
    · split at h <;> try contradiction
      rename_i hg
      cases ha : eqAV P sym T (evT P ss T x) (evT P ss T y) with
      | none => simp [ha] at h
      | some r =>
        simp [ha] at h; subst h
        have hk := eqAV_kind ha hx hy
        have he := eqAV_sound (w := w) ha hob hx hy
        refine Gives.pure (x := .bool (!r.2)) hr ?_ (by simp [RV, RV1, RC])
        have hgd := eqGuard_free (P := P) (w := w) (op := .neq) (T := T) (x := x) (y := y) hk hg
        have hb : (binOp .neq T (a.eval x) (a.eval y)).run P w = .ok (.bool (!r.2)) w := by
          rcases hk with ⟨u, v, e1, e2⟩ | ⟨u, v, e1, e2⟩ <;> rw [e1, e2] at he ⊢ <;> simp [binOp, he]
        simp [execOp, ho, hgd, hb]
end
end Go.Proofs.Ytakmgioeldbkcaa
