/- The operations of a symbolic run, one by one. -/
import Derived.Test.YtakmgioeldbkcaaX2
import Derived.ChangeKeysEq
import Derived.Laws.StructEq
namespace Go.Proofs.Ytakmgioeldbkcaa
open Go Go.RowKit

structure Eff where
  v : AV
  ob : List Bool := []
  rd : List Nat := []
  wr : Option (Nat × Blk) := none

def Eff.app (H : Heap) : Option (Nat × Blk) → Heap
  | none => H
  | some (k, b) => hset H k b

/-! ### Constants -/
def ofS : Value → AV
  | .bool b => .bool b
  | .int k n => .int k n
  | .string s => .str s
  | .pointer none => .nilp
  | .nilFunc => .nilfn
  | .slice none 0 0 => .nilsl
  | v => match v.oneCell' with
    | true => .raw v
    | false => .any

theorem ofS_RC (ρ : Env) (v : Value) (h : v.oneCell' = true) : RC ρ (ofS v) [v] := by
  unfold ofS
  split
  all_goals first | (simp only [RC]; done) | (rw [h]; simp only [RC]; exact ⟨h, trivial⟩)

def intsOf (k : IntKind) : List Value → Option (List Int)
  | [] => some []
  | .int k' n :: r => match kindEq k k' with
    | true => (intsOf k r).map (n :: ·)
    | false => none
  | _ :: _ => none

theorem intsOf_eq (k : IntKind) : ∀ (cs : List Value) (l : List Int), intsOf k cs = some l → cs = l.map (Value.int k)
  | [], l, h => by simp [intsOf] at h; subst h; rfl
  | c :: cs, l, h => by
    cases c <;> simp only [intsOf] at h <;> try contradiction
    split at h
    · rename_i hk
      rw [kindEq_eq hk]
      cases hr : intsOf k cs with
      | none => simp [hr] at h
      | some r =>
        simp [hr] at h; subst h
        rw [intsOf_eq k cs r hr, kindEq_eq hk]; rfl
    · contradiction

def ofCells (cs : List Value) : AV :=
  match cs with
  | .int k _ :: _ => match intsOf k cs with
    | some l => .ints k l.length l
    | none => .any
  | _ => .any

def ofV : Value → AV
  | .agg cs => ofCells cs.toList
  | .tuple cs => match cs.toList with
    | [] => .undef
    | _ :: _ => .any
  | v => ofS v

theorem ofV_RV (ρ : Env) (v : Value) : RV ρ (ofV v) v := by
  have one : v.oneCell' = true → RV ρ (ofS v) v := fun h => by
    have hc := ofS_RC ρ v h
    unfold ofS at hc ⊢
    split <;> simp only [RV, RV1, RC] at * <;> try trivial
    simp only [h] at *
    simpa only [RV, RV1] using hc
  cases v <;> try exact one rfl
  case agg cs =>
    simp only [ofV, ofCells]
    split
    · split
      · rename_i l hl
        simp only [RV, RV1]
        refine ⟨trivial, ?_⟩
        rw [← intsOf_eq _ _ _ hl]
      · simp only [RV, RV1]
    · simp only [RV, RV1]
  case tuple cs =>
    simp only [ofV]
    split
    · rename_i h
      simp only [RV, RV1, undef]
      have : cs = #[] := by cases cs; simp_all
      rw [this]
    · simp only [RV, RV1]

/-! ### Slots -/
def sget : List AV → Nat → AV
  | [], _ => .undef
  | v :: _, 0 => v
  | _ :: l, k + 1 => sget l k

def sset : List AV → Nat → AV → List AV
  | [], _, _ => []
  | _ :: l, 0, v => v :: l
  | x :: l, k + 1, v => x :: sset l k v

def SlotsR (ρ : Env) (ss : List AV) (tmps : Array Value) : Prop := ∀ i, RV ρ (sget ss i) (tmps.getD i undef) 

def evS (ss : List AV) : Operand → AV
  | .tmp t => sget ss t
  | .const v => ofV v
  | .global _ => .any
  | .func f => .fn f []

theorem evS_RV {ρ : Env} {ss : List AV} {a : Act} (h : SlotsR ρ ss a.tmps) (x : Operand) : RV ρ (evS ss x) (a.eval x) := by
  cases x with
  | tmp t => exact h t
  | const v => exact ofV_RV ρ v
  | global g => simp [evS, RV, RV1]
  | func f => simp [evS, RV, RV1, RC, RCs, Act.eval]

theorem sget_sset : ∀ (l : List AV) (k j : Nat) (v : AV), sget (sset l k v) j = if j = k ∧ k < l.length then v else sget l j
  | [], k, j, v => by simp [sset]
  | x :: l, 0, 0, v => by simp [sset, sget]
  | x :: l, 0, j + 1, v => by simp [sset, sget]
  | x :: l, k + 1, 0, v => by simp [sset, sget]
  | x :: l, k + 1, j + 1, v => by simp only [sset, sget]; rw [sget_sset l k j v]; simp

theorem sset_length : ∀ (l : List AV) (k : Nat) (v : AV), (sset l k v).length = l.length
  | [], _, _ => rfl
  | _ :: l, 0, _ => rfl
  | _ :: l, k + 1, v => by simp [sset, sset_length l k v]

theorem sset_comm : ∀ (l : List AV) (k j : Nat) (v u : AV), k ≠ j → sset (sset l k v) j u = sset (sset l j u) k v
  | [], _, _, _, _, _ => rfl
  | x :: l, 0, 0, _, _, h => absurd rfl h
  | x :: l, 0, j + 1, v, u, _ => by simp [sset]
  | x :: l, k + 1, 0, v, u, _ => by simp [sset]
  | x :: l, k + 1, j + 1, v, u, h => by simp only [sset]; rw [sset_comm l k j v u (by omega)]

def sput (ss : List AV) : Option Tmp → AV → List AV
  | none, _ => ss
  | some d, v => sset ss d v

theorem SlotsR.mono {ρ ρ' : Env} {ss : List AV} {t : Array Value} (h : SlotsR ρ ss t) (hle : Env.le ρ ρ') : SlotsR ρ' ss t := fun i => (h i).mono hle

theorem SlotsR.put {ρ : Env} {ss : List AV} {a : Act} (h : SlotsR ρ ss a.tmps) (hl : ss.length = a.tmps.size) (dst : Option Tmp) {v : AV} {x : Value} (hv : RV ρ v x) :
    SlotsR ρ (sput ss dst v) (a.put dst x).tmps ∧ (sput ss dst v).length = (a.put dst x).tmps.size := by
  cases dst with
  | none => exact ⟨h, hl⟩
  | some d =>
    refine ⟨fun i => ?_, by simp [sput, sset_length, Act.put, hl]⟩
    simp only [sput, sget_sset, Act.put]
    by_cases hi : i = d ∧ d < ss.length
    · obtain ⟨rfl, hd⟩ := hi
      rw [if_pos ⟨rfl, hd⟩]
      simpa [Array.getElem?_setIfInBounds, ← hl, hd] using hv
    · rw [if_neg hi]
      have := h i
      simp only [Array.getD_eq_getD_getElem?, Array.getElem?_setIfInBounds] at *
      by_cases e : d = i
      · subst e
        have : ¬ d < a.tmps.size := by rw [← hl]; exact fun h' => hi ⟨rfl, h'⟩
        simp [this] at *
        assumption
      · simpa [e] using this
end Go.Proofs.Ytakmgioeldbkcaa
