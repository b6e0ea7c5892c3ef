/- What an operation of a symbolic run hangs on: its operands' slots, and the blocks that it notes down. -/
import Derived.Test.YtakmgioeldbkcaaX9
namespace Go.Proofs.Ytakmgioeldbkcaa
open Go Go.RowKit

section
variable {P : Program} {ss ss' : List AV} {lk lk' : Nat → Option Blk} {o : Oper} {E : Eff}

theorem evT_congr {T : Nat} {x : Operand} (h : evS ss' x = evS ss x) : evT P ss' T x = evT P ss T x := by
  unfold evT
  split
  · rfl
  · exact h

theorem structParts_congr (fs : List Field) : ∀ (l : List (Nat × Operand)), (∀ x ∈ l, evS ss' x.2 = evS ss x.2) → structParts P ss' fs l = structParts P ss fs l
  | [], _ => rfl
  | (i, x) :: l, h => by
    simp only [structParts]
    rw [structParts_congr fs l (fun y hy => h y (by simp [hy]))]
    split
    · rw [evT_congr (h (i, x) (by simp))]
    · rfl

theorem arrayParts_congr (e : Nat) : ∀ (l : List (Nat × Operand)), (∀ x ∈ l, evS ss' x.2 = evS ss x.2) → arrayParts P ss' e l = arrayParts P ss e l
  | [], _ => rfl
  | (i, x) :: l, h => by
    simp only [arrayParts]
    rw [arrayParts_congr e l (fun y hy => h y (by simp [hy])), evT_congr (h (i, x) (by simp))]

theorem effNew_local {key T : Nat} {v : AV} (h : effNew lk key T v = some E) (hk : ∀ k ∈ E.rd, lk' k = lk k) : effNew lk' key T v = some E := by
  unfold effNew at h ⊢
  split at h <;> try contradiction
  rename_i h1 h2
  simp at h; subst h
  rw [hk key (by simp), h1, h2]

theorem bnd_congr {sym : Bool} {v : Option Operand} {d y : Nat} (h : ∀ x, v = some x → evS ss' x = evS ss x) : bnd sym ss' v d y = bnd sym ss v d y := by
  unfold bnd
  cases v with
  | none => rfl
  | some x => simp only [h x rfl]

theorem effOp_local {sym : Bool} {key : Nat} (h : effOp P sym key ss lk o = some E) (hs : ∀ x ∈ o.op.operands, evS ss' x = evS ss x) (hk : ∀ k ∈ E.rd, lk' k = lk k) :
    effOp P sym key ss' lk' o = some E := by
  unfold effOp at h ⊢
  cases ho : o.op <;> simp only [ho, Op.operands] at h hs ⊢ <;> try contradiction
  case move x => simp only [effMove] at h ⊢; rw [evT_congr (hs x (by simp))]; exact h
  case assign x => simp only [effMove] at h ⊢; rw [evT_congr (hs x (by simp))]; exact h
  case pick c x y =>
    simp only [effPick] at h ⊢
    rw [hs c (by simp), evT_congr (hs x (by simp)), evT_congr (hs y (by simp))]; exact h
  case alloc T =>
    simp only [effAlloc] at h ⊢
    split at h <;> try contradiction
    split at h <;> try contradiction
    rename_i z hz
    cases hv : shapeV P T z with
    | none => simp [hv] at h
    | some v =>
      simp only [hv, Option.bind_some] at h ⊢
      exact effNew_local h hk
  case box T x =>
    simp only [effBox] at h ⊢
    rw [evT_congr (hs x (by simp))]
    exact effNew_local h hk
  case build T ps =>
    simp only [effBuild] at h ⊢
    have hp : ∀ x ∈ ps.toList, evS ss' x.2 = evS ss x.2 := fun x hx => hs x.2 (by simp; exact ⟨x.1, by simpa using hx⟩)
    have e1 := fun fs => structParts_congr (P := P) fs ps.toList hp
    have e2 := fun e => arrayParts_congr (P := P) e ps.toList hp
    simp only [e1, e2]
    exact h
  case buildSlice T n ps =>
    simp only [effBuildSlice] at h ⊢
    have hp : ∀ x ∈ ps.toList, evS ss' x.2 = evS ss x.2 := fun x hx => hs x.2 (by simp; exact ⟨x.1, by simpa using hx⟩)
    split at h <;> try contradiction
    rename_i e h1
    split at h <;> try contradiction
    rename_i h2 h3
    split at h <;> try contradiction
    rename_i z h4
    split at h <;> try contradiction
    rename_i h5 h6
    have hkk : lk' key = lk key := by
      apply hk
      cases hz : zeroRow P e n with
      | none => simp [hz] at h
      | some r =>
        simp only [hz, Option.bind_some] at h
        cases hq : setParts r (arrayParts P ss e ps.toList) with
        | none => simp [hq] at h
        | some v => simp [hq] at h; subst h; simp
    have e2 := fun e => arrayParts_congr (P := P) e ps.toList hp
    simp only [e2, hkk, h6, h5]
    exact h
  case makeSlice T x y =>
    simp only [effMakeSlice] at h ⊢
    rw [hs x (by simp), hs y (by simp)]
    split at h <;> try contradiction
    rename_i e h1
    split at h <;> try contradiction
    rename_i d i k1 l k2 c h2 h3 h4 h5
    split at h <;> try contradiction
    rename_i z h6
    split at h <;> try contradiction
    rename_i ob h7 h8 h9
    have hkk : lk' key = lk key := by
      apply hk
      cases hz : zeroRow P e c.toNat with
      | none => simp [hz] at h
      | some r => simp [hz] at h; subst h; simp
    simp only [hkk, h7, h8, h9]
    exact h
  case load T x =>
    simp only [effLoad] at h ⊢
    rw [hs x (by simp)]
    split at h <;> try contradiction
    rename_i k p h1
    split at h <;> try contradiction
    rename_i b h2
    have hkk : lk' k = lk k := by
      apply hk
      split at h <;> try contradiction
      split at h <;> split at h <;> try contradiction
      all_goals simp at h; subst h; simp
    rw [hkk, h2]; exact h
  case store T x y =>
    simp only [effStore] at h ⊢
    rw [hs x (by simp), evT_congr (hs y (by simp))]
    split at h <;> try contradiction
    rename_i k p h1
    split at h <;> try contradiction
    rename_i b h2
    have hkk : lk' k = lk k := by
      apply hk
      split at h <;> try contradiction
      split at h <;> try contradiction
      simp at h; subst h; simp
    rw [hkk, h2]; exact h
  case nilCheck x => simp only [effNilCheck] at h ⊢; rw [hs x (by simp)]; exact h
  case binOp op T x y T2 => simp only [effBin] at h ⊢; rw [evT_congr (hs x (by simp)), evT_congr (hs y (by simp))]; exact h
  case unOp op T x => simp only [effUn] at h ⊢; rw [hs x (by simp)]; exact h
  case convert S T x =>
    simp only [effConvert] at h ⊢
    rw [evT_congr (hs x (by simp))]
    split at h <;> try contradiction
    · exact h
    · exact h
    · exact h
    · rename_i e k p n cap h1 h2 h3
      split at h <;> try contradiction
      rename_i b h4 h5
      have hkk : lk' k = lk k := by
        apply hk
        split at h <;> try contradiction
        rename_i m l lo _
        cases hc : chk sym (Nat.ble (lo + n) m) with
        | none => simp [hc] at h
        | some q => simp [hc] at h; subst h; simp
      rw [hkk, h5]
      simp only [h4]
      exact h
  case sliceToArrayPointer T x => simp only [effArrPtr] at h ⊢; rw [hs x (by simp)]; exact h
  case makeFunc f l c =>
    simp only [effMakeFunc] at h ⊢
    have hc : c.toList.map (evS ss') = c.toList.map (evS ss) := List.map_congr_left fun x hx => hs x (by simp at hx ⊢; exact .inr hx)
    rw [hc]; exact h
  case slice T x lo hi mx =>
    simp only [effSlice] at h ⊢
    have hlo : ∀ y, lo = some y → evS ss' y = evS ss y := fun y hy => hs y (by subst hy; simp)
    have hhi : ∀ y, hi = some y → evS ss' y = evS ss y := fun y hy => hs y (by subst hy; simp)
    simp only [hs x (by simp), evT_congr (hs x (by simp)), bnd_congr hlo, bnd_congr hhi]; exact h
  case fieldAddr S x f => simp only [effFieldAddr] at h ⊢; rw [hs x (by simp)]; exact h
  case field S x f => simp only [effField] at h ⊢; rw [evT_congr (hs x (by simp))]; exact h
  case indexAddr T x i => simp only [effIndexAddr] at h ⊢; rw [hs x (by simp), hs i (by simp)]; exact h
  case index T x i => simp only [effIndex] at h ⊢; rw [evT_congr (hs x (by simp)), hs i (by simp)]; exact h
  case extract x i => simp only [effExtract] at h ⊢; rw [hs x (by simp)]; exact h
  case call c =>
    split at h <;> try contradiction
    rename_i b hb
    have ha : ∀ x ∈ c.args.toList, evS ss' x = evS ss x := fun x hx => hs x (by simp [Call.operands]; exact .inr (by simpa using hx))
    unfold effBuiltin at h ⊢
    have h2 : ints2 ss' c.args.toList = ints2 ss c.args.toList := by
      unfold ints2
      split
      · rename_i x y e
        rw [ha x (by simp [e]), ha y (by simp [e])]
      · rfl
    cases b <;> simp only at h ⊢ <;> try contradiction
    case len =>
      split at h <;> try contradiction
      rename_i t x e1 e2
      simp only [ha x (by simp [e2]), evT_congr (ha x (by simp [e2]))]; exact h
    case max => rw [h2]; exact h
    case min => rw [h2]; exact h
end
end Go.Proofs.Ytakmgioeldbkcaa
