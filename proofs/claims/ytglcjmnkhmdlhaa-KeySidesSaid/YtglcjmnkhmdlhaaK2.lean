/- Texts of this claim, one behind the other. -/
import Derived.Test.YtglcjmnkhmdlhaaK1
import Derived.Orders
import Derived.LoopN
import Derived.Laws.Externs
import Derived.KernelRfl
import Derived.OrdersIn
import Derived.LoopNIn
import Derived.Scope
import Derived.OwnWalkIn

/- What an operation of a symbolic run hangs on: its operands' slots, and the blocks that it notes down. -/
namespace Go.Proofs.Ytglcjmnkhmdlhaa
open Go Go.RowKit

section
variable {P : Program} {ss ss' : List AV} {lk lk' : Nat → Option Blk} {o : Oper} {E : Eff}

theorem evT_congr {T : Nat} {x : Operand} (h : evS ss' x = evS ss x) : evT P ss' T x = evT P ss T x := by
  unfold evT
  split
  · rfl
  · exact h

theorem structParts_congr (fs : List Field) : ∀ (l : List (Nat × Operand)), (∀ x ∈ l, evS ss' x.2 = evS ss x.2) → structParts P ss' fs l = structParts P ss fs l
  | [], _ => rfl
  | (i, x) :: l, h => by
    simp only [structParts]
    rw [structParts_congr fs l (fun y hy => h y (by simp [hy]))]
    split
    · rw [evT_congr (h (i, x) (by simp))]
    · rfl

theorem arrayParts_congr (e : Nat) : ∀ (l : List (Nat × Operand)), (∀ x ∈ l, evS ss' x.2 = evS ss x.2) → arrayParts P ss' e l = arrayParts P ss e l
  | [], _ => rfl
  | (i, x) :: l, h => by
    simp only [arrayParts]
    rw [arrayParts_congr e l (fun y hy => h y (by simp [hy])), evT_congr (h (i, x) (by simp))]

theorem effNew_local {key T : Nat} {v : AV} (h : effNew lk key T v = some E) (hk : ∀ k ∈ E.rd, lk' k = lk k) : effNew lk' key T v = some E := by
  unfold effNew at h ⊢
  split at h <;> try contradiction
  rename_i h1 h2
  simp at h; subst h
  rw [hk key (by simp), h1, h2]

theorem bnd_congr {sym : Bool} {v : Option Operand} {d y : Nat} (h : ∀ x, v = some x → evS ss' x = evS ss x) : bnd sym ss' v d y = bnd sym ss v d y := by
  unfold bnd
  cases v with
  | none => rfl
  | some x => simp only [h x rfl]

theorem effOp_local {sym : Bool} {key : Nat} (h : effOp P sym key ss lk o = some E) (hs : ∀ x ∈ o.op.operands, evS ss' x = evS ss x) (hk : ∀ k ∈ E.rd, lk' k = lk k) :
    effOp P sym key ss' lk' o = some E := by
  unfold effOp at h ⊢
  cases ho : o.op <;> simp only [ho, Op.operands] at h hs ⊢ <;> try contradiction
  case move x => simp only [effMove] at h ⊢; rw [evT_congr (hs x (by simp))]; exact h
  case assign x => simp only [effMove] at h ⊢; rw [evT_congr (hs x (by simp))]; exact h
  case pick c x y =>
    simp only [effPick] at h ⊢
    rw [hs c (by simp), evT_congr (hs x (by simp)), evT_congr (hs y (by simp))]; exact h
  case alloc T =>
    simp only [effAlloc] at h ⊢
    split at h <;> try contradiction
    split at h <;> try contradiction
    rename_i z hz
    cases hv : shapeV P T z with
    | none => simp [hv] at h
    | some v =>
      simp only [hv, Option.bind_some] at h ⊢
      exact effNew_local h hk
  case box T x =>
    simp only [effBox] at h ⊢
    rw [evT_congr (hs x (by simp))]
    exact effNew_local h hk
  case build T ps =>
    simp only [effBuild] at h ⊢
    have hp : ∀ x ∈ ps.toList, evS ss' x.2 = evS ss x.2 := fun x hx => hs x.2 (by simp; exact ⟨x.1, by simpa using hx⟩)
    have e1 := fun fs => structParts_congr (P := P) fs ps.toList hp
    have e2 := fun e => arrayParts_congr (P := P) e ps.toList hp
    simp only [e1, e2]
    exact h
  case buildSlice T n ps =>
    simp only [effBuildSlice] at h ⊢
    have hp : ∀ x ∈ ps.toList, evS ss' x.2 = evS ss x.2 := fun x hx => hs x.2 (by simp; exact ⟨x.1, by simpa using hx⟩)
    split at h <;> try contradiction
    rename_i e h1
    split at h <;> try contradiction
    rename_i h2 h3
    split at h <;> try contradiction
    rename_i z h4
    split at h <;> try contradiction
    rename_i h5 h6
    have hkk : lk' key = lk key := by
      apply hk
      cases hz : zeroRow P e n with
      | none => simp [hz] at h
      | some r =>
        simp only [hz, Option.bind_some] at h
        cases hq : setParts r (arrayParts P ss e ps.toList) with
        | none => simp [hq] at h
        | some v => simp [hq] at h; subst h; simp
    have e2 := fun e => arrayParts_congr (P := P) e ps.toList hp
    simp only [e2, hkk, h6, h5]
    exact h
  case makeSlice T x y =>
    simp only [effMakeSlice] at h ⊢
    rw [hs x (by simp), hs y (by simp)]
    split at h <;> try contradiction
    rename_i e h1
    split at h <;> try contradiction
    rename_i d i k1 l k2 c h2 h3 h4 h5
    split at h <;> try contradiction
    rename_i z h6
    split at h <;> try contradiction
    rename_i ob h7 h8 h9
    have hkk : lk' key = lk key := by
      apply hk
      cases hz : zeroRow P e c.toNat with
      | none => simp [hz] at h
      | some r => simp [hz] at h; subst h; simp
    simp only [hkk, h7, h8, h9]
    exact h
  case load T x =>
    simp only [effLoad] at h ⊢
    rw [hs x (by simp)]
    split at h <;> try contradiction
    rename_i k p h1
    split at h <;> try contradiction
    rename_i b h2
    have hkk : lk' k = lk k := by
      apply hk
      split at h <;> try contradiction
      split at h <;> split at h <;> try contradiction
      all_goals simp at h; subst h; simp
    rw [hkk, h2]; exact h
  case store T x y =>
    simp only [effStore] at h ⊢
    rw [hs x (by simp), evT_congr (hs y (by simp))]
    split at h <;> try contradiction
    rename_i k p h1
    split at h <;> try contradiction
    rename_i b h2
    have hkk : lk' k = lk k := by
      apply hk
      split at h <;> try contradiction
      split at h <;> try contradiction
      simp at h; subst h; simp
    rw [hkk, h2]; exact h
  case nilCheck x => simp only [effNilCheck] at h ⊢; rw [hs x (by simp)]; exact h
  case binOp op T x y T2 => simp only [effBin] at h ⊢; rw [evT_congr (hs x (by simp)), evT_congr (hs y (by simp))]; exact h
  case unOp op T x => simp only [effUn] at h ⊢; rw [hs x (by simp)]; exact h
  case convert S T x =>
    simp only [effConvert] at h ⊢
    rw [evT_congr (hs x (by simp))]
    split at h <;> try contradiction
    · exact h
    · exact h
    · exact h
    · rename_i e k p n cap h1 h2 h3
      split at h <;> try contradiction
      rename_i b h4 h5
      have hkk : lk' k = lk k := by
        apply hk
        split at h <;> try contradiction
        rename_i m l lo _
        cases hc : chk sym (Nat.ble (lo + n) m) with
        | none => simp [hc] at h
        | some q => simp [hc] at h; subst h; simp
      rw [hkk, h5]
      simp only [h4]
      exact h
  case sliceToArrayPointer T x => simp only [effArrPtr] at h ⊢; rw [hs x (by simp)]; exact h
  case makeFunc f l c =>
    simp only [effMakeFunc] at h ⊢
    have hc : c.toList.map (evS ss') = c.toList.map (evS ss) := List.map_congr_left fun x hx => hs x (by simp at hx ⊢; exact .inr hx)
    rw [hc]; exact h
  case slice T x lo hi mx =>
    simp only [effSlice] at h ⊢
    have hlo : ∀ y, lo = some y → evS ss' y = evS ss y := fun y hy => hs y (by subst hy; simp)
    have hhi : ∀ y, hi = some y → evS ss' y = evS ss y := fun y hy => hs y (by subst hy; simp)
    simp only [hs x (by simp), evT_congr (hs x (by simp)), bnd_congr hlo, bnd_congr hhi]; exact h
  case fieldAddr S x f => simp only [effFieldAddr] at h ⊢; rw [hs x (by simp)]; exact h
  case field S x f => simp only [effField] at h ⊢; rw [evT_congr (hs x (by simp))]; exact h
  case indexAddr T x i => simp only [effIndexAddr] at h ⊢; rw [hs x (by simp), hs i (by simp)]; exact h
  case index T x i => simp only [effIndex] at h ⊢; rw [evT_congr (hs x (by simp)), hs i (by simp)]; exact h
  case extract x i => simp only [effExtract] at h ⊢; rw [hs x (by simp)]; exact h
  case call c =>
    split at h <;> try contradiction
    rename_i b hb
    have ha : ∀ x ∈ c.args.toList, evS ss' x = evS ss x := fun x hx => hs x (by simp [Call.operands]; exact .inr (by simpa using hx))
    split at h
    · have h0 := h
      unfold effCopy at h
      split at h <;> try contradiction
      rename_i t t2 x y e1 e2
      have hx := ha x (by simp [e2])
      have hy := evT_congr (P := P) (T := t2) (ha y (by simp [e2]))
      split at h <;> try contradiction
      rename_i e ht
      split at h <;> try contradiction
      rename_i k p n cap s he ex ey
      split at h <;> try contradiction
      rename_i q b hkb
      have hkk : lk' k = lk k := by
        apply hk
        split at h <;> try contradiction
        rename_i m l _ _
        cases hc : chk sym (Nat.ble (q + n) m) with
        | none => simp [hc] at h
        | some ob => simp [hc] at h; subst h; simp
      rw [← h0]
      simp only [effCopy, e1, e2, ht, he, hx, hy, ex, ey, hkk, hkb]
    unfold effBuiltin at h ⊢
    have h2 : ints2 ss' c.args.toList = ints2 ss c.args.toList := by
      unfold ints2
      split
      · rename_i x y e
        rw [ha x (by simp [e]), ha y (by simp [e])]
      · rfl
    cases b <;> simp only at h ⊢ <;> try contradiction
    case len =>
      split at h <;> try contradiction
      rename_i t x e1 e2
      simp only [ha x (by simp [e2]), evT_congr (ha x (by simp [e2]))]; exact h
    case max => rw [h2]; exact h
    case min => rw [h2]; exact h
end
end Go.Proofs.Ytglcjmnkhmdlhaa

/- One operation of a region, with its guard; calls by contracts; a region whatever its order. -/
namespace Go.Proofs.Ytglcjmnkhmdlhaa
open Go Go.RowKit

/-- What a call comes to: at once, or by the callee's text. -/
def CallOK (P : Program) (f : Nat) (xs : Array Value) (w : World) (R : Value → World → Prop) : Prop :=
  (∃ x, (callFunc f xs).run P w = .ok (.value x) w ∧ R x w) ∨ ((callFunc f xs).run P w = .ok (.enter f xs) w ∧ Calls P f xs w fun e w' => ∃ x, e = .returned x ∧ R x w')

/-- A function's contract. -/
structure Ctr (P : Program) where
  f : Nat
  g : List AV → (Nat → Option Blk) → Option Eff
  loc : ∀ args lk lk' E, g args lk = some E → (∀ k ∈ E.rd, lk' k = lk k) → g args lk' = some E
  ok : ∀ ρ H B W w args xs E, g args (hget H) = some E → (∀ b ∈ E.ob, b = true) → Rep ρ H B W w → RV1s ρ args xs →
    CallOK P f xs.toArray w fun x w' => ∃ ρ', Env.le ρ ρ' ∧ RV ρ' E.v x ∧ Rep ρ' (Eff.app H E.wr) B W w'

def findC {P : Program} : List (Ctr P) → Nat → Option (Ctr P)
  | [], _ => none
  | c :: l, f => match Nat.beq c.f f with
    | true => some c
    | false => findC l f

theorem findC_f {P : Program} : ∀ (l : List (Ctr P)) (f : Nat) (c : Ctr P), findC l f = some c → c.f = f
  | [], f, c, h => by simp [findC] at h
  | d :: l, f, c, h => by
    simp only [findC] at h
    split at h
    · rename_i hb; simp at h; subst h; exact Nat.eq_of_beq_eq_true hb
    · exact findC_f l f c h

def AV.noTup : AV → Bool
  | .tup _ => false
  | _ => true

def evArgs (P : Program) (ss : List AV) : List Nat → List Operand → List AV
  | t :: ts, x :: xs => evT P ss t x :: evArgs P ss ts xs
  | [], x :: xs => evS ss x :: evArgs P ss [] xs
  | _, [] => []

section
variable {P : Program} {ρ : Env} {H : Heap} {B : Fr} {W w : World} {ss : List AV} {a : Act} {o : Oper} {E : Eff}

theorem RV1_of_RV {v : AV} {x : Value} (h : RV ρ v x) (hn : v.noTup = true) : RV1 ρ v x := by
  cases v <;> simp only [AV.noTup] at hn <;> first | contradiction | exact h

theorem evArgs_RV (hsl : SlotsR ρ ss a.tmps) : ∀ (ts : List Nat) (xs : List Operand), (evArgs P ss ts xs).all AV.noTup = true → RV1s ρ (evArgs P ss ts xs) (xs.map a.eval)
  | ts, [], _ => by cases ts <;> simp [evArgs, RV1s]
  | [], x :: xs, h => by
    simp only [evArgs, List.all_cons, Bool.and_eq_true] at h
    simp only [evArgs, List.map_cons, RV1s]
    exact ⟨_, _, RV1_of_RV (evS_RV hsl x) h.1, evArgs_RV hsl [] xs h.2, rfl⟩
  | t :: ts, x :: xs, h => by
    simp only [evArgs, List.all_cons, Bool.and_eq_true] at h
    simp only [evArgs, List.map_cons, RV1s]
    exact ⟨_, _, RV1_of_RV (evT_RV hsl t x) h.1, evArgs_RV hsl ts xs h.2, rfl⟩

theorem RV1s_append : ∀ (l m : List AV) (xs ys : List Value), RV1s ρ l xs → RV1s ρ m ys → RV1s ρ (l ++ m) (xs ++ ys)
  | [], m, xs, ys, h1, h2 => by simp only [RV1s] at h1; subst h1; simpa using h2
  | v :: l, m, xs, ys, h1, h2 => by
    simp only [RV1s] at h1
    obtain ⟨x, zs, h3, h4, rfl⟩ := h1
    simp only [List.cons_append, RV1s]
    exact ⟨x, zs ++ ys, h3, RV1s_append l m zs ys h4 h2, rfl⟩

theorem RV1s_of_RCs : ∀ (l : List AV) (cs : List Value), l.all AV.one = true → RCs ρ l cs → RV1s ρ l cs
  | [], cs, _, h => by simpa only [RCs, RV1s] using h
  | v :: l, cs, ha, h => by
    simp only [List.all_cons, Bool.and_eq_true] at ha
    simp only [RCs] at h
    obtain ⟨c1, c2, h1, h2, rfl⟩ := h
    obtain ⟨x, rfl, hx, _⟩ := RV.of_cell h1 ha.1
    simp only [RV1s]
    refine ⟨x, c2, RV1_of_RV hx ?_, RV1s_of_RCs l c2 ha.2 h2, rfl⟩
    have := ha.1
    cases v <;> first | rfl | simp [AV.one] at this

def effCall (P : Program) (cs : List (Ctr P)) (ss : List AV) (lk : Nat → Option Blk) (c : Call) : Option Eff :=
  match c.callee with
  | .value x => match evS ss x with
    | .fn f cap => match cap.all AV.one && (evArgs P ss c.argTypes.toList c.args.toList).all AV.noTup, findC cs f with
      | true, some t => t.g (evArgs P ss c.argTypes.toList c.args.toList ++ cap) lk
      | _, _ => none
    | _ => none
  | _ => none

theorem call_run {c : Call} {x : Operand} {f : Nat} {xs : List Value} (ho : o.op = .call c) (hcb : c.callee = .value x) (hx : a.eval x = .func (.func f) #[] xs.toArray) :
    execOp a.eval o = callFunc f (c.args.toList.map a.eval ++ xs).toArray := by
  have hp : ∀ {α β : Type} (v : α) (f : α → Sem β), (Pure.pure v : Sem α) >>= f = f v := fun v f => rfl
  simp only [execOp, ho, resolve, hcb, hx, Deferred.ofValue, hp, invoke]
  congr 1
  apply Array.toList_inj.1
  simp

theorem effCall_sound {cs : List (Ctr P)} {c : Call} {K : Act → World → Prop} {Q : Exit → Act → World → Prop} (hr : Rep ρ H B W w) (hsl : SlotsR ρ ss a.tmps) (ho : o.op = .call c) (h : effCall P cs ss (hget H) c = some E) (hob : ∀ b ∈ E.ob, b = true)
    (hK : ∀ ρ' x w', Env.le ρ ρ' → RV ρ' E.v x → Rep ρ' (Eff.app H E.wr) B W w' → K (a.put o.dst x) w') : o.wp P a w K Q := by
  unfold effCall at h
  split at h <;> try contradiction
  rename_i x hcb
  have hx := evS_RV hsl x
  split at h <;> try contradiction
  rename_i f cap e
  split at h <;> try contradiction
  rename_i t hc hf
  simp only [Bool.and_eq_true] at hc
  rw [e] at hx
  simp only [RV, RV1, RC] at hx
  obtain ⟨xs, hxs, e2⟩ := hx
  simp at e2
  have hff := findC_f cs f t hf
  have hcall := t.ok ρ H B W w _ _ E h hob hr (RV1s_append _ _ _ _ (evArgs_RV (a := a) hsl _ _ hc.2) (RV1s_of_RCs _ _ hc.1 hxs))
  unfold Oper.wp
  rw [call_run (a := a) ho hcb e2]
  rw [hff] at hcall
  rcases hcall with ⟨y, hy, ρ', h1, h2, h3⟩ | ⟨hrun, hcalls⟩
  · rw [hy]
    exact hK ρ' y w h1 h2 h3
  · rw [hrun]
    refine hcalls.mono ?_
    rintro en w' ⟨y, rfl, ρ', h1, h2, h3⟩
    exact hK ρ' y w' h1 h2 h3

/-- Whether an operation is wanted: its guard's slot; 'dec': what is taken for known of a slot. -/
def dstOf : List Oper → Nat → Option Nat
  | [], _ => none
  | o :: _, 0 => o.dst
  | _ :: l, j + 1 => dstOf l j

def wantedA (dec : Nat → Option Bool) (ops : List Oper) (ss : List AV) (o : Oper) : Option (List Bool × Bool) :=
  match o.guard with
  | none => some ([], true)
  | some (j, want) => match dstOf ops j with
    | some d => match sget ss d with
      | .bool b => match dec d with
        | some c => some ([b == c], c == want)
        | none => match b with
          | true => some ([], want)
          | false => some ([], !want)
      | .undef => some ([], false)
      | _ => none
    | none => none

theorem dstOf_eq : ∀ (l : List Oper) (j : Nat), dstOf l j = (l[j]?).bind (·.dst)
  | [], j => by simp [dstOf]
  | o :: l, 0 => by simp [dstOf]
  | o :: l, j + 1 => by simp [dstOf, dstOf_eq l j]

theorem wantedA_sound {dec : Nat → Option Bool} {ops : Array Oper} {ob : List Bool} {r : Bool} (hsl : SlotsR ρ ss a.tmps) (h : wantedA dec ops.toList ss o = some (ob, r)) (hob : ∀ b ∈ ob, b = true) :
    Region.wanted o (yielded ops a.tmps) = r := by
  unfold wantedA at h
  unfold Region.wanted
  split at h
  · rename_i hg; simp at h; rw [hg]; simpa using h.2
  · rename_i j want hg
    rw [hg]
    simp only
    split at h <;> try contradiction
    rename_i d hd
    rw [dstOf_eq] at hd
    have hyld : yielded ops a.tmps j = match a.tmps[d]? with | some (.bool b) => some b | _ => none := by
      unfold yielded
      have : (ops[j]?).bind (·.dst) = some d := by simpa using hd
      rw [this]; rfl
    have hv := hsl d
    split at h <;> try contradiction
    · rename_i b hb
      rw [hb] at hv
      have hv := RV_bool hv
      have ht : a.tmps[d]? = some (.bool b) := by
        cases hh : a.tmps[d]? with
        | none => simp [Array.getD_eq_getD_getElem?, hh, undef] at hv
        | some y => simp [Array.getD_eq_getD_getElem?, hh] at hv; rw [hv]
      rw [hyld, ht]
      simp only
      split at h
      · rename_i c _
        simp at h; obtain ⟨rfl, rfl⟩ := h
        have := hob (b == c) (by simp)
        simp at this; subst this
        cases b <;> cases want <;> rfl
      · split at h
        · simp at h; rw [← h.2]; cases want <;> rfl
        · simp at h; obtain ⟨_, rfl⟩ := h; cases r <;> rfl
    · rename_i hb
      rw [hb] at hv
      simp only [RV, RV1] at hv
      simp at h; obtain ⟨_, rfl⟩ := h
      have : yielded ops a.tmps j = none := by
        rw [hyld]
        cases hh : a.tmps[d]? with
        | none => rfl
        | some y => simp [Array.getD_eq_getD_getElem?, hh] at hv; subst hv; rfl
      rw [this]
      cases want <;> rfl

/-- A choice between two slots, of which it may be known which. -/
def pickD (P : Program) (dec : Nat → Option Bool) (ss : List AV) (T : Nat) (c x y : Operand) : Option Eff :=
  match c with
  | .tmp t => match dec t, sget ss t with
    | some d, .bool b => match d with
      | true => some { v := evT P ss T x, ob := [b == true] }
      | false => some { v := evT P ss T y, ob := [b == false] }
    | _, _ => effPick P ss T c x y
  | c => effPick P ss T c x y

theorem pickD_sound {dec : Nat → Option Bool} {T : Nat} {c x y : Operand} (hr : Rep ρ H B W w) (hsl : SlotsR ρ ss a.tmps) (ho : o.op = .pick c x y) (h : pickD P dec ss T c x y = some E) (hob : ∀ b ∈ E.ob, b = true) : Gives P ρ H B W w (execOp a.eval o) E := by
  unfold pickD at h
  split at h
  · rename_i t
    split at h
    · rename_i d b hd hb
      have hc := evS_RV hsl (.tmp t)
      simp only [evS, hb] at hc
      have hc := RV_bool hc
      split at h <;> simp at h <;> subst h
      · have := hob (b == true) (by simp)
        simp at this; subst this
        exact Gives.pure hr (by simp [execOp, ho, hc, asBool]) (evT_RV hsl T x)
      · have := hob (b == false) (by simp)
        simp at this; subst this
        exact Gives.pure hr (by simp [execOp, ho, hc, asBool]) (evT_RV hsl T y)
    · exact effPick_sound hr hsl ho h
  · exact effPick_sound hr hsl ho h

def Eff.more (E : Eff) (ob : List Bool) : Eff := { E with ob := ob ++ E.ob }

/-- What is known of a region from outside: may its tests be noted down, and what is taken for known. -/
structure Hint where
  sym : Bool := false
  dec : Nat → Option Bool := fun _ => none

def opEff0 (P : Program) (cs : List (Ctr P)) (h : Hint) (key : Nat) (ss : List AV) (lk : Nat → Option Blk) (o : Oper) : Option Eff :=
  match o.op with
  | .pick c x y => pickD P h.dec ss o.type c x y
  | .call c => match c.callee with
    | .value _ => effCall P cs ss lk c
    | _ => effOp P h.sym key ss lk o
  | _ => effOp P h.sym key ss lk o

def opEff (P : Program) (cs : List (Ctr P)) (h : Hint) (ops : List Oper) (key : Nat) (ss : List AV) (lk : Nat → Option Blk) (o : Oper) : Option Eff :=
  match wantedA h.dec ops ss o with
  | some (ob, true) => (opEff0 P cs h key ss lk o).map fun E => E.more ob
  | some (ob, false) => some { v := .undef, ob := ob }
  | none => none

theorem wp_of_gives {K : Act → World → Prop} {Q : Exit → Act → World → Prop} (h : Gives P ρ H B W w (execOp a.eval o) E)
    (hK : ∀ ρ' x w', Env.le ρ ρ' → RV ρ' E.v x → Rep ρ' (Eff.app H E.wr) B W w' → K (a.put o.dst x) w') : o.wp P a w K Q := by
  obtain ⟨x, ρ', w', hrun, h1, h2, h3⟩ := h
  unfold Oper.wp
  rcases hrun with hrun | ⟨hrun, rfl⟩
  · rw [hrun]; exact hK ρ' x w' h1 h2 h3
  · rw [hrun]; exact hK ρ' undef w' h1 h2 h3

theorem opEff0_sound {cs : List (Ctr P)} {hi : Hint} {key : Nat} {K : Act → World → Prop} {Q : Exit → Act → World → Prop} (hr : Rep ρ H B W w) (hsl : SlotsR ρ ss a.tmps) (h : opEff0 P cs hi key ss (hget H) o = some E) (hob : ∀ b ∈ E.ob, b = true)
    (hK : ∀ ρ' x w', Env.le ρ ρ' → RV ρ' E.v x → Rep ρ' (Eff.app H E.wr) B W w' → K (a.put o.dst x) w') : o.wp P a w K Q := by
  unfold opEff0 at h
  split at h
  · exact wp_of_gives (pickD_sound hr hsl ‹_› h hob) hK
  · split at h
    · exact effCall_sound hr hsl ‹_› h hob hK
    · exact wp_of_gives (effOp_sound hr hsl h hob) hK
  · exact wp_of_gives (effOp_sound hr hsl h hob) hK

theorem opEff_sound {cs : List (Ctr P)} {hi : Hint} {ops : Array Oper} {key i : Nat} {K : Act → World → Prop} {Q : Exit → Act → World → Prop} (hr : Rep ρ H B W w) (hsl : SlotsR ρ ss a.tmps) (hoi : ops[i]? = some o)
    (h : opEff P cs hi ops.toList key ss (hget H) o = some E) (hob : ∀ b ∈ E.ob, b = true)
    (hK : ∀ ρ' x w', Env.le ρ ρ' → RV ρ' E.v x → Rep ρ' (Eff.app H E.wr) B W w' → K (a.put o.dst x) w') : wpOp P ops Q i K a w := by
  unfold opEff at h
  unfold wpOp
  rw [hoi]
  simp only
  split at h <;> try contradiction
  · rename_i ob hw
    cases h0 : opEff0 P cs hi key ss (hget H) o with
    | none => simp [h0] at h
    | some F =>
      simp [h0] at h; subst h
      have hw := wantedA_sound hsl hw (fun b hb => hob b (by simp [Eff.more, hb]))
      rw [if_pos hw]
      exact .inl (opEff0_sound hr hsl h0 (fun b hb => hob b (by simp [Eff.more, hb])) hK)
  · rename_i ob hw
    simp at h; subst h
    have hw := wantedA_sound hsl hw hob
    rw [if_neg (by rw [hw]; decide)]
    exact hK ρ undef w (Env.le.refl ρ) (by simp [RV, RV1]) hr

/-! ### What it hangs on -/
variable {ss' : List AV} {lk lk' : Nat → Option Blk}

theorem evArgs_congr : ∀ (ts : List Nat) (xs : List Operand), (∀ x ∈ xs, evS ss' x = evS ss x) → evArgs P ss' ts xs = evArgs P ss ts xs
  | ts, [], _ => by cases ts <;> rfl
  | [], x :: xs, h => by simp only [evArgs]; rw [h x (by simp), evArgs_congr [] xs (fun y hy => h y (by simp [hy]))]
  | t :: ts, x :: xs, h => by simp only [evArgs]; rw [evT_congr (h x (by simp)), evArgs_congr ts xs (fun y hy => h y (by simp [hy]))]

theorem opEff_local {cs : List (Ctr P)} {hi : Hint} {ops : Array Oper} {key : Nat} (h : opEff P cs hi ops.toList key ss lk o = some E) (hs : ∀ t ∈ o.looksAt ops, sget ss' t = sget ss t) (hk : ∀ k ∈ E.rd, lk' k = lk k) :
    opEff P cs hi ops.toList key ss' lk' o = some E := by
  have hop : ∀ x ∈ o.op.operands, evS ss' x = evS ss x := by
    intro x hx
    cases x with
    | tmp t => exact hs t (by unfold Oper.looksAt; simp only [List.mem_append, List.mem_filterMap]; exact .inl ⟨.tmp t, by simpa using hx, rfl⟩)
    | const v => rfl
    | global g => rfl
    | func f => rfl
  have hwant : wantedA hi.dec ops.toList ss' o = wantedA hi.dec ops.toList ss o := by
    unfold wantedA
    split
    · rfl
    · rename_i j want hg
      split
      · rename_i d hd
        rw [dstOf_eq] at hd
        have hd2 : (ops[j]?).bind (·.dst) = some d := by simpa using hd
        have hmem : d ∈ o.looksAt ops := by
          unfold Oper.looksAt
          simp only [List.mem_append, hg, hd2]
          exact .inr (by simp)
        rw [hs d hmem]
      · rfl
  unfold opEff at h ⊢
  rw [hwant]
  split at h <;> try contradiction
  · rename_i ob hw
    cases h0 : opEff0 P cs hi key ss lk o with
    | none => simp [h0] at h
    | some F =>
      simp [h0] at h; subst h
      have hk : ∀ k ∈ F.rd, lk' k = lk k := hk
      have : opEff0 P cs hi key ss' lk' o = some F := by
        unfold opEff0 at h0 ⊢
        split at h0
        · rename_i c x y ho
          rw [ho] at hop
          simp only [Op.operands] at hop
          have hc := hop c (by simp)
          have e1 := evT_congr (P := P) (T := o.type) (hop x (by simp))
          have e2 := evT_congr (P := P) (T := o.type) (hop y (by simp))
          have hp : effPick P ss' o.type c x y = effPick P ss o.type c x y := by
            unfold effPick; rw [hc, e1, e2]
          unfold pickD at h0 ⊢
          split at h0
          · rename_i t
            simp only [evS] at hc
            simp only [hc, e1, e2, hp]; exact h0
          · rw [hp]; exact h0
        · rename_i c ho
          split at h0
          · rename_i x hx
            rw [ho] at hop
            simp only [Op.operands, Call.operands, hx] at hop
            have hcx := hop x (by simp)
            have ha := evArgs_congr (P := P) c.argTypes.toList c.args.toList (fun y hy => hop y (by simp; exact .inr (by simpa using hy)))
            unfold effCall at h0 ⊢
            (try simp only [hx, hcx, ha] at h0 ⊢)
            split at h0 <;> try contradiction
            split at h0 <;> try contradiction
            rename_i f cap _ t hc hf
            exact t.loc _ lk lk' F h0 hk
          · exact effOp_local h0 hop hk
        · exact effOp_local h0 hop hk
      simp [this]
  · exact h
end
end Go.Proofs.Ytglcjmnkhmdlhaa

/- A region of a symbolic run, in the text's order and in whatever order. -/
namespace Go.Proofs.Ytglcjmnkhmdlhaa
open Go Go.RowKit

abbrev RS := List AV × Heap

/-- The world that is looked back to, and the calls that are put off. -/
structure WD where
  w : World
  d : List Deferred
structure StR (ρ : Env) (s : RS) (B : Fr) (W : WD) (a : Act) (w : World) : Prop where
  sl : SlotsR ρ s.1 a.tmps
  len : s.1.length = a.tmps.size
  df : a.defers = W.d
  rep : Rep ρ s.2 B W.w w

section
variable {P : Program} {ρ : Env} {B : Fr} {W : WD} {w : World} {a : Act} {ops : Array Oper} {cs : List (Ctr P)} {hi : Hint} {nk : Nat}

def effAt (P : Program) (cs : List (Ctr P)) (hi : Hint) (ops : List Oper) (nk i : Nat) (s : RS) : Option Eff :=
  match ops[i]? with
  | some o => opEff P cs hi ops (nk + i) s.1 (hget s.2) o
  | none => none

def appAt (ops : List Oper) (i : Nat) (E : Eff) (s : RS) : RS := (sput s.1 (dstOf ops i) E.v, Eff.app s.2 E.wr)

def Run (P : Program) (cs : List (Ctr P)) (hi : Hint) (ops : List Oper) (nk : Nat) : List (Nat × Eff) → RS → RS → Prop
  | [], s, sf => s = sf
  | (i, E) :: L, s, sf => effAt P cs hi ops nk i s = some E ∧ Run P cs hi ops nk L (appAt ops i E s) sf

theorem effAt_sound {i : Nat} {E : Eff} {s : RS} {K : Act → World → Prop} {Q : Exit → Act → World → Prop} (hs : StR ρ s B W a w) (h : effAt P cs hi ops.toList nk i s = some E) (hob : ∀ b ∈ E.ob, b = true)
    (hK : ∀ ρ' a' w', Env.le ρ ρ' → StR ρ' (appAt ops.toList i E s) B W a' w' → K a' w') : wpOp P ops Q i K a w := by
  unfold effAt at h
  split at h <;> try contradiction
  rename_i o hoi
  have hoi' : ops[i]? = some o := by simpa using hoi
  refine opEff_sound hs.rep hs.sl hoi' h hob fun ρ' x w' h1 h2 h3 => hK ρ' _ w' h1 ?_
  have hd : dstOf ops.toList i = o.dst := by rw [dstOf_eq, hoi]; rfl
  obtain ⟨p1, p2⟩ := (hs.sl.mono h1).put hs.len o.dst h2
  refine ⟨?_, ?_, ?_, h3⟩
  · simpa [appAt, hd] using p1
  · simpa [appAt, hd] using p2
  · have : (a.put o.dst x).defers = a.defers := by cases o.dst <;> rfl
    rw [this]; exact hs.df

def keysApart (E F : Eff) : Bool :=
  match E.wr, F.wr with
  | none, none => true
  | some (k, _), none => !F.rd.contains k
  | none, some (k, _) => !E.rd.contains k
  | some (k, _), some (j, _) => !F.rd.contains k && !E.rd.contains j && !Nat.beq k j

def apartAt (ops : Array Oper) (i j : Nat) : Bool :=
  match ops.toList[i]?, ops.toList[j]? with
  | some x, some y => x.apart ops y
  | _, _ => false

theorem app_get {H : Heap} {E : Eff} {k : Nat} (h : ∀ q, E.wr = some q → q.1 ≠ k) : hget (Eff.app H E.wr) k = hget H k := by
  cases hw : E.wr with
  | none => rfl
  | some q =>
    have := h q hw
    obtain ⟨k', b⟩ := q
    simp only [Eff.app]
    rw [hget_hset, if_neg (fun e => this e.symm)]

theorem commute {i j : Nat} {Ei Ej : Eff} {s : RS} (ha : apartAt ops i j = true) (hk : keysApart Ei Ej = true) (hi' : effAt P cs hi ops.toList nk i s = some Ei)
    (hj : effAt P cs hi ops.toList nk j (appAt ops.toList i Ei s) = some Ej) :
    effAt P cs hi ops.toList nk j s = some Ej ∧ effAt P cs hi ops.toList nk i (appAt ops.toList j Ej s) = some Ei ∧
      appAt ops.toList j Ej (appAt ops.toList i Ei s) = appAt ops.toList i Ei (appAt ops.toList j Ej s) := by
  unfold apartAt at ha
  split at ha <;> try contradiction
  rename_i x y hx hy
  obtain ⟨a1, a2, a3⟩ := Oper.apart_spec ha
  have hdi : dstOf ops.toList i = x.dst := by rw [dstOf_eq, hx]; rfl
  have hdj : dstOf ops.toList j = y.dst := by rw [dstOf_eq, hy]; rfl
  have rdj : ∀ k ∈ Ej.rd, ∀ q, Ei.wr = some q → q.1 ≠ k := by
    intro k hkr q hq e
    subst e
    unfold keysApart at hk
    rw [hq] at hk
    split at hk <;> simp_all
  have rdi : ∀ k ∈ Ei.rd, ∀ q, Ej.wr = some q → q.1 ≠ k := by
    intro k hkr q hq e
    subst e
    unfold keysApart at hk
    rw [hq] at hk
    split at hk <;> simp_all
  unfold effAt at hi' hj ⊢
  rw [hx] at hi' ⊢
  rw [hy] at hj ⊢
  simp only at hi' hj ⊢
  have slot : ∀ (ss : List AV) (d : Option Nat) (v : AV) (t : Nat), (∀ e, d = some e → e ≠ t) → sget (sput ss d v) t = sget ss t := by
    intro ss d v t h
    cases d with
    | none => rfl
    | some d =>
      simp only [sput, sget_sset]
      rw [if_neg (fun hh => h d rfl hh.1.symm)]
  refine ⟨?_, ?_, ?_⟩
  · refine opEff_local hj (fun t ht => ?_) (fun k hkr => (app_get (rdj k hkr)).symm)
    simp only [appAt, hdi]
    exact (slot _ _ _ _ (fun e he => fun e2 => a1 e he (e2 ▸ ht))).symm
  · refine opEff_local hi' (fun t ht => ?_) (fun k hkr => app_get (rdi k hkr))
    simp only [appAt, hdj]
    exact slot _ _ _ _ (fun e he => fun e2 => a3 e he (e2 ▸ ht))
  · simp only [appAt, hdi, hdj]
    refine Prod.ext ?_ ?_
    · simp only
      cases hxd : x.dst with
      | none => rfl
      | some d =>
        cases hyd : y.dst with
        | none => rfl
        | some e =>
          simp only [sput]
          exact sset_comm _ _ _ _ _ (fun h => a2 d hxd (by rw [hyd, h]))
    · simp only
      cases hwi : Ei.wr with
      | none => rfl
      | some q =>
        cases hwj : Ej.wr with
        | none => rfl
        | some r =>
          obtain ⟨k, b⟩ := q
          obtain ⟨l, c⟩ := r
          simp only [Eff.app]
          apply hset_comm
          intro e
          subst e
          unfold keysApart at hk
          rw [hwi, hwj] at hk
          simp at hk

theorem run_front {j : Nat} {Ej : Eff} : ∀ (L1 L2 : List (Nat × Eff)) (s sf : RS), Run P cs hi ops.toList nk (L1 ++ (j, Ej) :: L2) s sf → (∀ q ∈ L1, apartAt ops q.1 j = true ∧ keysApart q.2 Ej = true) →
    effAt P cs hi ops.toList nk j s = some Ej ∧ Run P cs hi ops.toList nk (L1 ++ L2) (appAt ops.toList j Ej s) sf
  | [], L2, s, sf, h, _ => h
  | (i, Ei) :: L1, L2, s, sf, h, hq => by
    obtain ⟨h1, h2⟩ := h
    obtain ⟨h3, h4⟩ := run_front L1 L2 _ sf h2 (fun q hq' => hq q (by simp [hq']))
    obtain ⟨q1, q2⟩ := hq (i, Ei) (by simp)
    obtain ⟨c1, c2, c3⟩ := commute q1 q2 h1 h3
    exact ⟨c1, c2, by rw [← c3]; exact h4⟩

/-- 'i' stands before 'j' by the edges. -/
inductive Bef (ops : Array Oper) : Nat → Nat → Prop
  | one {j : Nat} {o : Oper} {e : Edge} : ops[j]? = some o → e ∈ o.after → Region.binds .any e = true → Bef ops e.on j
  | more {i j : Nat} {o : Oper} {e : Edge} : ops[j]? = some o → e ∈ o.after → Region.binds .any e = true → Bef ops i e.on → Bef ops i j

theorem Bef.inv {ops : Array Oper} {i j : Nat} (h : Bef ops i j) : ∃ (o : Oper) (e : Edge), ops[j]? = some o ∧ e ∈ o.after ∧ Region.binds .any e = true ∧ (i = e.on ∨ Bef ops i e.on) := by
  cases h with
  | one ho he hb => exact ⟨_, _, ho, he, hb, .inl rfl⟩
  | more ho he hb h2 => exact ⟨_, _, ho, he, hb, .inr h2⟩

theorem ready_iff {listed : Array Bool} {j : Nat} (h : j ∈ Region.ready .any ops listed) : j < ops.size ∧ listed.getD j true = false ∧ ∃ o, ops[j]? = some o ∧ ∀ e ∈ o.after, Region.binds .any e = true → listed.getD e.on false = true := by
  unfold Region.ready at h
  simp only [List.mem_filter, List.mem_range, Bool.and_eq_true, Bool.not_eq_true'] at h
  obtain ⟨h1, h2, h3⟩ := h
  refine ⟨h1, h2, ops[j], by simp [h1], ?_⟩
  rw [Array.getElem?_eq_getElem h1] at h3
  simp only [Option.map_some, Option.getD_some] at h3
  rw [Array.all_eq_true'] at h3
  intro e he hb
  have := h3 e he
  simpa [hb] using this

/-- Whatever order the tape picks. -/
theorem run_any {Q : Exit → Act → World → Prop} (hon : ∀ (j : Nat) (o : Oper) (e : Edge), ops[j]? = some o → e ∈ o.after → Region.binds .any e = true → e.on < j) (sf : RS) :
    ∀ (n : Nat) (L : List (Nat × Eff)) (listed : Array Bool) (s : RS) (ρ : Env) (a : Act) (w : World), L.length = n → Run P cs hi ops.toList nk L s sf → (∀ q ∈ L, ∀ b ∈ q.2.ob, b = true) →
    listed.size = ops.size → L.Pairwise (fun q r => q.1 < r.1 ∧ (Bef ops q.1 r.1 ∨ apartAt ops q.1 r.1 = true ∧ keysApart q.2 r.2 = true)) → (∀ j, j < ops.size → (listed.getD j true = false ↔ ∃ q ∈ L, q.1 = j)) →
    (∀ q ∈ L, q.1 < ops.size) → (∀ i j, listed.getD j false = true → Bef ops i j → listed.getD i false = true) →
    StR ρ s B W a w → (∀ ρ' a' w', Env.le ρ ρ' → StR ρ' sf B W a' w' → Q .normal a' w') → wpAny P .any ops Q n listed a w := by
  intro n
  induction n with
  | zero =>
    intro L listed s ρ a w hl hrun _ hsz _ hiff _ _ hst hq
    have : L = [] := by cases L <;> simp_all
    subst this
    refine ⟨?_, hq ρ a w (Env.le.refl ρ) (by rw [show sf = s from hrun.symm]; exact hst)⟩
    apply List.eq_nil_iff_forall_not_mem.2
    intro j hj
    obtain ⟨h1, h2, _⟩ := ready_iff hj
    obtain ⟨q, hq, _⟩ := (hiff j h1).1 h2
    simp at hq
  | succ n ih =>
    intro L listed s ρ a w hl hrun hob hsz hpw hiff hlt hcl hst hq
    refine ⟨fun hnil => ?_, fun j hj => ?_⟩
    · -- the first that is left is ready
      exfalso
      cases L with
      | nil => simp at hl
      | cons q L =>
        obtain ⟨i, Ei⟩ := q
        have hi' := hlt (i, Ei) (by simp)
        simp only at hi'
        have hun := (hiff i hi').2 ⟨(i, Ei), by simp, rfl⟩
        have : i ∈ Region.ready .any ops listed := by
          unfold Region.ready
          simp only [List.mem_filter, List.mem_range, Bool.and_eq_true, Bool.not_eq_true']
          refine ⟨hi', hun, ?_⟩
          rw [Array.getElem?_eq_getElem hi']
          simp only [Option.map_some, Option.getD_some]
          rw [Array.all_eq_true']
          intro e he
          cases hb : Region.binds .any e with
          | false => simp
          | true =>
            have hlt' := hon i ops[i] e (by simp [hi']) he hb
            have hlis : listed.getD e.on true = true := by
              cases hh : listed.getD e.on true with
              | true => rfl
              | false =>
                obtain ⟨q, hq, e1⟩ := (hiff e.on (by omega)).1 hh
                simp only [List.mem_cons] at hq
                rcases hq with rfl | hq
                · simp only at e1; omega
                · have := (List.pairwise_cons.1 hpw).1 q hq
                  simp only at this; omega
            have hlt2 : e.on < listed.size := by omega
            simp [hlt2] at hlis ⊢
            exact hlis
        rw [hnil] at this
        simp at this
    · obtain ⟨h1, h2, o, ho, hpred⟩ := ready_iff hj
      obtain ⟨⟨j', Ej⟩, hmem, rfl⟩ := (hiff j h1).1 h2
      obtain ⟨L1, L2, rfl⟩ := List.append_of_mem hmem
      have hno : ∀ q ∈ L1, ¬ Bef ops q.1 j' := by
        intro q hqL hbef
        have hun : listed.getD q.1 true = false := (hiff q.1 (hlt q (by simp [hqL]))).2 ⟨q, by simp [hqL], rfl⟩
        have hl2 : listed.getD q.1 false = true := by
          obtain ⟨o', e, ho', he, hb, h3⟩ := hbef.inv
          rw [ho] at ho'; simp at ho'; subst ho'
          rcases h3 with h3 | h3
          · rw [h3]; exact hpred e he hb
          · exact hcl _ _ (hpred e he hb) h3
        have hlt2 : q.1 < listed.size := by rw [hsz]; exact hlt q (by simp [hqL])
        simp [hlt2] at hun hl2
        rw [hun] at hl2; simp at hl2
      have hpw2 := List.pairwise_append.1 hpw
      have hind : ∀ q ∈ L1, apartAt ops q.1 j' = true ∧ keysApart q.2 Ej = true := by
        intro q hqL
        rcases (hpw2.2.2 q hqL (j', Ej) (by simp)).2 with hb | hb
        · exact absurd hb (hno q hqL)
        · exact hb
      obtain ⟨r1, r2⟩ := run_front L1 L2 s sf hrun hind
      refine effAt_sound hst r1 (hob (j', Ej) (by simp)) fun ρ' a' w' hle hst' => ?_
      have hjs : j' < listed.size := by rw [hsz]; exact h1
      refine ih (L1 ++ L2) (listed.setIfInBounds j' true) _ ρ' a' w' (by simp at hl ⊢; omega) r2 (fun q hqL => hob q (by simp at hqL ⊢; rcases hqL with h | h <;> simp [h])) (by simp [hsz]) ?_ ?_
        (fun q hqL => hlt q (by simp at hqL ⊢; rcases hqL with h | h <;> simp [h])) ?_ hst' (fun ρ2 a2 w2 h => hq ρ2 a2 w2 (hle.trans h))
      · refine List.pairwise_append.2 ⟨hpw2.1, (List.pairwise_cons.1 hpw2.2.1).2, fun q hq1 r hr => hpw2.2.2 q hq1 r (by simp [hr])⟩
      · intro k hk
        by_cases e : k = j'
        · subst e
          simp only [Array.getD_eq_getD_getElem?, Array.getElem?_setIfInBounds, if_pos hjs]
          simp
          intro Ex
          constructor
          · intro hx
            have := (hpw2.2.2 (k, Ex) hx (k, Ej) (by simp)).1; simp at this
          · intro hx
            have := ((List.pairwise_cons.1 hpw2.2.1).1 (k, Ex) hx).1; simp at this
        · have hk2 := hiff k hk
          have : (listed.setIfInBounds j' true).getD k true = listed.getD k true := by
            simp only [Array.getD_eq_getD_getElem?, Array.getElem?_setIfInBounds]
            rw [if_neg (fun h => e h.symm)]
          rw [this, hk2]
          constructor
          · rintro ⟨q, hq1, rfl⟩
            refine ⟨q, ?_, rfl⟩
            simp only [List.mem_append, List.mem_cons] at hq1 ⊢
            rcases hq1 with h | rfl | h
            · exact .inl h
            · exact absurd rfl e
            · exact .inr h
          · rintro ⟨q, hq1, rfl⟩
            refine ⟨q, ?_, rfl⟩
            simp only [List.mem_append, List.mem_cons] at hq1 ⊢
            rcases hq1 with h | h
            · exact .inl h
            · exact .inr (.inr h)
      · intro i k hk hb
        have key : ∀ m, listed.getD m false = true → (listed.setIfInBounds j' true).getD m false = true := by
          intro m hm
          simp only [Array.getD_eq_getD_getElem?, Array.getElem?_setIfInBounds] at hm ⊢
          split
          · rename_i e; subst e; simp
          · exact hm
        by_cases e : k = j'
        · subst e
          apply key
          obtain ⟨o', e, ho', he, hb2, h3⟩ := hb.inv
          rw [ho] at ho'; simp at ho'; subst ho'
          rcases h3 with h3 | h3
          · rw [h3]; exact hpred e he hb2
          · exact hcl _ _ (hpred e he hb2) h3
        · apply key
          have : listed.getD k false = true := by
            simp only [Array.getD_eq_getD_getElem?, Array.getElem?_setIfInBounds] at hk ⊢
            rw [if_neg (fun h => e h.symm)] at hk
            exact hk
          exact hcl i k this hb
end
end Go.Proofs.Ytglcjmnkhmdlhaa

/- The symbolic run of a function's text. -/
namespace Go.Proofs.Ytglcjmnkhmdlhaa
open Go Go.RowKit

/-! ### Which operations stand before which -/
def edgesOn (j : Nat) : List Edge → Bool
  | [] => true
  | e :: l => (match Region.binds .any e with
    | true => Nat.ble (e.on + 1) j
    | false => true) && edgesOn j l

def allOn : Nat → List Oper → Bool
  | _, [] => true
  | j, o :: l => edgesOn j o.after.toList && allOn (j + 1) l

def nth0 : List Nat → Nat → Nat
  | [], _ => 0
  | x :: _, 0 => x
  | _ :: l, k + 1 => nth0 l k

def maskOf (acc : List Nat) : List Edge → Nat → Nat
  | [], m => m
  | e :: l, m => match Region.binds .any e with
    | true => maskOf acc l (m ||| 2 ^ e.on ||| nth0 acc e.on)
    | false => maskOf acc l m

def masks : List Oper → List Nat → List Nat
  | [], acc => acc
  | o :: l, acc => masks l (acc ++ [maskOf acc o.after.toList 0])

section
variable {ops : Array Oper}

theorem edgesOn_spec {j : Nat} : ∀ (l : List Edge), edgesOn j l = true → ∀ e ∈ l, Region.binds .any e = true → e.on < j
  | [], _, e, he, _ => by simp at he
  | x :: l, h, e, he, hb => by
    simp only [edgesOn, Bool.and_eq_true] at h
    simp only [List.mem_cons] at he
    rcases he with rfl | he
    · rw [hb] at h; exact Nat.le_of_ble_eq_true h.1
    · exact edgesOn_spec l h.2 e he hb

theorem allOn_spec : ∀ (l : List Oper) (k : Nat), allOn k l = true → ∀ j o, l[j]? = some o → ∀ e ∈ o.after, Region.binds .any e = true → e.on < k + j
  | [], k, _, j, o, h, _, _, _ => by simp at h
  | x :: l, k, h, 0, o, ho, e, he, hb => by
    simp only [allOn, Bool.and_eq_true] at h
    simp at ho; subst ho
    exact edgesOn_spec _ h.1 e (by simpa using he) hb
  | x :: l, k, h, j + 1, o, ho, e, he, hb => by
    simp only [allOn, Bool.and_eq_true] at h
    have := allOn_spec l (k + 1) h.2 j o (by simpa using ho) e he hb
    omega

theorem maskOf_spec {acc : List Nat} {j : Nat} {o : Oper} (ho : ops[j]? = some o) (hacc : ∀ k i, (nth0 acc k).testBit i = true → Bef ops i k) : ∀ (l : List Edge) (m : Nat), (∀ e ∈ l, e ∈ o.after) → (∀ i, m.testBit i = true → Bef ops i j) →
    ∀ i, (maskOf acc l m).testBit i = true → Bef ops i j
  | [], m, _, hm, i, h => hm i h
  | e :: l, m, hl, hm, i, h => by
    simp only [maskOf] at h
    split at h
    · rename_i hb
      refine maskOf_spec ho hacc l _ (fun e' he' => hl e' (by simp [he'])) ?_ i h
      intro i' hi'
      rw [Nat.testBit_or, Nat.testBit_or, Bool.or_eq_true, Bool.or_eq_true] at hi'
      rcases hi' with (h1 | h1) | h1
      · exact hm i' h1
      · rw [Nat.testBit_two_pow] at h1
        simp at h1
        subst h1
        exact .one ho (hl e (by simp)) hb
      · exact .more ho (hl e (by simp)) hb (hacc _ _ h1)
    · exact maskOf_spec ho hacc l m (fun e' he' => hl e' (by simp [he'])) hm i h

theorem nth0_append (l : List Nat) (x k : Nat) : nth0 (l ++ [x]) k = if k < l.length then nth0 l k else if k = l.length then x else 0 := by
  induction l generalizing k with
  | nil => cases k <;> simp [nth0]
  | cons y l ih =>
    cases k with
    | zero => simp [nth0]
    | succ k => simp only [List.cons_append, nth0, ih, List.length_cons]; simp

theorem nth0_ge (l : List Nat) (k : Nat) (h : l.length ≤ k) : nth0 l k = 0 := by
  induction l generalizing k with
  | nil => rfl
  | cons y l ih => cases k with
    | zero => simp at h
    | succ k => exact ih k (by simpa using h)

theorem masks_spec : ∀ (l : List Oper) (acc : List Nat), (∀ j o, l[j]? = some o → ops[acc.length + j]? = some o) → (∀ k i, (nth0 acc k).testBit i = true → Bef ops i k) → ∀ k i, (nth0 (masks l acc) k).testBit i = true → Bef ops i k
  | [], acc, _, h, k, i, hk => h k i hk
  | o :: l, acc, hl, h, k, i, hk => by
    refine masks_spec l (acc ++ [maskOf acc o.after.toList 0]) ?_ ?_ k i hk
    · intro j o' ho'
      have := hl (j + 1) o' (by simpa using ho')
      simp only [List.length_append, List.length_singleton]
      rw [show acc.length + 1 + j = acc.length + (j + 1) by omega]
      exact this
    · intro k' i' hk'
      rw [nth0_append] at hk'
      split at hk'
      · exact h k' i' hk'
      · split at hk'
        · rename_i e; subst e
          exact maskOf_spec (hl 0 o rfl) h o.after.toList 0 (by simp) (by simp) i' hk'
        · simp at hk'
end

section
variable {P : Program}

/-! ### A region -/
def runL (P : Program) (cs : List (Ctr P)) (hi : Hint) (ops : List Oper) (nk : Nat) : Nat → List Oper → RS → Option (List (Nat × Eff) × RS)
  | _, [], s => some ([], s)
  | i, o :: l, s => match opEff P cs hi ops (nk + i) s.1 (hget s.2) o with
    | some E => (runL P cs hi ops nk (i + 1) l (sput s.1 o.dst E.v, Eff.app s.2 E.wr)).map fun r => ((i, E) :: r.1, r.2)
    | none => none

def pairOK (ops : Array Oper) (ms : List Nat) (q r : Nat × Eff) : Bool :=
  (nth0 ms r.1).testBit q.1 || apartAt ops q.1 r.1 && keysApart q.2 r.2

def pairsOK (ops : Array Oper) (ms : List Nat) : List (Nat × Eff) → Bool
  | [] => true
  | q :: L => L.all (pairOK ops ms q) && pairsOK ops ms L

def obsOf : List (Nat × Eff) → List Bool
  | [] => []
  | q :: L => q.2.ob ++ obsOf L

structure St where
  ss : List AV
  H : Heap
  nk : Nat

abbrev St.rs (s : St) : RS := (s.ss, s.H)

def drawn (P : Program) (cs : List (Ctr P)) (hi : Hint) (ops : Array Oper) (s : St) : Option (List Bool × St) :=
  match runL P cs hi ops.toList s.nk 0 ops.toList s.rs with
  | some (L, sf) => match allOn 0 ops.toList && pairsOK ops (masks ops.toList []) L with
    | true => some (obsOf L, ⟨sf.1, sf.2, s.nk + ops.toList.length⟩)
    | false => none
  | none => none

theorem runL_spec {cs : List (Ctr P)} {hi : Hint} {ops : List Oper} {nk : Nat} : ∀ (l : List Oper) (i : Nat) (s sf : RS) (L : List (Nat × Eff)), (∀ j, l[j]? = ops[i + j]?) → runL P cs hi ops nk i l s = some (L, sf) →
    Run P cs hi ops nk L s sf ∧ L.map (·.1) = List.range' i l.length
  | [], i, s, sf, L, _, h => by simp [runL] at h; obtain ⟨rfl, rfl⟩ := h; exact ⟨rfl, rfl⟩
  | o :: l, i, s, sf, L, hl, h => by
    simp only [runL] at h
    split at h <;> try contradiction
    rename_i E hE
    cases hr : runL P cs hi ops nk (i + 1) l (sput s.1 o.dst E.v, Eff.app s.2 E.wr) with
    | none => simp [hr] at h
    | some r =>
      simp [hr] at h; obtain ⟨rfl, rfl⟩ := h
      have ho : ops[i]? = some o := by have := hl 0; simpa using this.symm
      obtain ⟨h1, h2⟩ := runL_spec l (i + 1) _ r.2 r.1 (fun j => by have := hl (j + 1); simp at this; rw [this]; congr 1; omega) hr
      have hd : dstOf ops i = o.dst := by rw [dstOf_eq, ho]; rfl
      refine ⟨⟨?_, ?_⟩, by simp [h2, List.range'_succ]⟩
      · simp only [effAt, ho, hE]
      · simpa only [appAt, hd] using h1

theorem obsOf_mem : ∀ (L : List (Nat × Eff)), (∀ b ∈ obsOf L, b = true) → ∀ q ∈ L, ∀ b ∈ q.2.ob, b = true
  | [], _, q, hq, _, _ => by simp at hq
  | x :: L, h, q, hq, b, hb => by
    simp only [obsOf, List.mem_append] at h
    simp only [List.mem_cons] at hq
    rcases hq with rfl | hq
    · exact h b (.inl hb)
    · exact obsOf_mem L (fun b hb => h b (.inr hb)) q hq b hb

theorem pairsOK_spec {ops : Array Oper} {ms : List Nat} (hms : ∀ k i, (nth0 ms k).testBit i = true → Bef ops i k) : ∀ (L : List (Nat × Eff)) (i n : Nat), L.map (·.1) = List.range' i n → pairsOK ops ms L = true →
    L.Pairwise fun q r => q.1 < r.1 ∧ (Bef ops q.1 r.1 ∨ apartAt ops q.1 r.1 = true ∧ keysApart q.2 r.2 = true)
  | [], _, _, _, _ => List.Pairwise.nil
  | q :: L, i, n, hm, h => by
    simp only [pairsOK, Bool.and_eq_true] at h
    cases n with
    | zero => simp at hm
    | succ n =>
      simp only [List.map_cons, List.range'_succ, List.cons.injEq] at hm
      refine List.pairwise_cons.2 ⟨fun r hr => ?_, pairsOK_spec hms L (i + 1) n hm.2 h.2⟩
      have hr1 : r.1 ∈ List.range' (i + 1) n := by rw [← hm.2]; exact List.mem_map_of_mem hr
      have := List.mem_range'_1.1 hr1
      refine ⟨by omega, ?_⟩
      have := List.all_eq_true.1 h.1 r hr
      simp only [pairOK, Bool.or_eq_true, Bool.and_eq_true] at this
      exact this.imp (hms _ _) id

def StS (ρ : Env) (s : St) (B : Fr) (W : WD) (a : Act) (w : World) : Prop := StR ρ s.rs B W a w

inductive Ex where
  | normal
  | exit (id : Nat)
  | ret

def Ex.to : Ex → Exit
  | .normal => .normal
  | .exit id => .exit id
  | .ret => .ret

/-- The code leads from 's' to 's''. -/
def CodeOK (P : Program) (c : Code) (s : St) (e : Ex) (s' : St) : Prop :=
  ∀ (ρ : Env) (B : Fr) (W : WD) (a : Act) (w : World) (Q : Exit → Act → World → Prop), StS ρ s B W a w →
    (∀ ρ' a' w', Env.le ρ ρ' → StS ρ' s' B W a' w' → Q e.to a' w') → c.wp P Q a w

theorem StR.drew {ρ : Env} {s : RS} {B : Fr} {W : WD} {w : World} {a : Act} (h : StR ρ s B W a w) : StR ρ s B W a { w with drawn := w.drawn + 1 } := ⟨h.sl, h.len, h.df, h.rep.drew⟩

theorem drawn_sound {cs : List (Ctr P)} {hi : Hint} {ops : Array Oper} {s s' : St} {ob : List Bool} {id : Nat} (hm : P.follows .mixedOrders = true) (h : drawn P cs hi ops s = some (ob, s')) (hob : ∀ b ∈ ob, b = true) :
    CodeOK P (.region id ops true) s .normal s' := by
  intro ρ B W a w Q hst hq
  unfold drawn at h
  split at h <;> try contradiction
  rename_i L sf hL
  split at h <;> try contradiction
  rename_i hc
  simp at h; obtain ⟨rfl, rfl⟩ := h
  simp only [Bool.and_eq_true] at hc
  obtain ⟨h1, h2⟩ := runL_spec ops.toList 0 s.rs sf L (by simp) hL
  have hms := masks_spec (ops := ops) ops.toList [] (by simp) (by simp [nth0])
  refine wp_region_any hm ?_
  refine run_any (fun j o e ho he hb => by have := allOn_spec ops.toList 0 hc.1 j o (by simpa using ho) e he hb; omega) sf ops.size L _ s.rs ρ a _ ?_ h1 (obsOf_mem L hob) (by simp) (pairsOK_spec hms L 0 _ h2 hc.2) ?_ ?_ ?_ hst.drew (fun ρ' a' w' h3 h4 => hq ρ' a' w' h3 h4)
  · have := congrArg List.length h2; simpa using this
  · intro j hj
    have hmem : j ∈ L.map (·.1) := by rw [h2]; exact List.mem_range'_1.2 (by simp; omega)
    obtain ⟨q, hq1, hq2⟩ := List.mem_map.1 hmem
    constructor
    · intro _; exact ⟨q, hq1, hq2⟩
    · intro _; simp [hj]
  · intro q hq1
    have hmem : q.1 ∈ L.map (·.1) := List.mem_map_of_mem hq1
    rw [h2] at hmem
    have := List.mem_range'_1.1 hmem
    simpa using this.2
  · intro i j hlis _
    simp [Array.getD_eq_getD_getElem?, Array.getElem?_replicate] at hlis
    split at hlis <;> simp at hlis

/-! ### A region in the text's order; calls that are walked into -/
def calleeOf (P : Program) (ss : List AV) (o : Oper) : Option (Nat × List AV) :=
  match o.op with
  | .call c => match c.callee with
    | .value x => match evS ss x with
      | .fn f cap => match cap.all AV.one && (evArgs P ss c.argTypes.toList c.args.toList).all AV.noTup with
        | true => some (f, evArgs P ss c.argTypes.toList c.args.toList ++ cap)
        | false => none
      | _ => none
    | _ => none
  | _ => none

abbrev Cal := Nat → List AV → Heap → Nat → Option (List Bool × AV × Heap × Nat)

def CalOK (P : Program) (cal : Cal) : Prop :=
  ∀ f args H nk ob v H' nk', cal f args H nk = some (ob, v, H', nk') → (∀ b ∈ ob, b = true) → ∀ ρ B W w xs, Rep ρ H B W w → RV1s ρ args xs →
    CallOK P f xs.toArray w fun x w' => ∃ ρ', Env.le ρ ρ' ∧ RV ρ' v x ∧ Rep ρ' H' B W w'

def runOps (P : Program) (cs : List (Ctr P)) (hi : Hint) (cal : Cal) (ops : List Oper) : List Oper → St → Option (List Bool × St)
  | [], s => some ([], s)
  | o :: l, s => match opEff P cs hi ops s.nk s.ss (hget s.H) o with
    | some E => (runOps P cs hi cal ops l ⟨sput s.ss o.dst E.v, Eff.app s.H E.wr, s.nk + 1⟩).map fun r => (E.ob ++ r.1, r.2)
    | none => match calleeOf P s.ss o, wantedA hi.dec ops s.ss o with
      | some (f, args), some (ob0, true) => match cal f args s.H s.nk with
        | some (ob, v, H', nk') => (runOps P cs hi cal ops l ⟨sput s.ss o.dst v, H', nk'⟩).map fun r => (ob0 ++ ob ++ r.1, r.2)
        | none => none
      | _, _ => none

theorem runOps_sound {cs : List (Ctr P)} {hi : Hint} {cal : Cal} (hcal : CalOK P cal) {ops : Array Oper} : ∀ (l : List Oper) (i : Nat) (s s' : St) (ob : List Bool), (∀ j, l[j]? = ops.toList[i + j]?) → runOps P cs hi cal ops.toList l s = some (ob, s') → (∀ b ∈ ob, b = true) →
    ∀ (ρ : Env) (B : Fr) (W : WD) (a : Act) (w : World) (Q : Exit → Act → World → Prop), StS ρ s B W a w → (∀ ρ' a' w', Env.le ρ ρ' → StS ρ' s' B W a' w' → Q .normal a' w') → wpOps P ops Q (List.range' i l.length) a w
  | [], i, s, s', ob, _, h, _, ρ, B, W, a, w, Q, hst, hq => by
    simp [runOps] at h; obtain ⟨_, rfl⟩ := h
    exact hq ρ a w (Env.le.refl ρ) hst
  | o :: l, i, s, s', ob, hl, h, hob, ρ, B, W, a, w, Q, hst, hq => by
    have ho : ops.toList[i]? = some o := by have := hl 0; simpa using this.symm
    have ho' : ops[i]? = some o := by simpa using ho
    have hl' : ∀ j, l[j]? = ops.toList[i + 1 + j]? := fun j => by have := hl (j + 1); simp at this; rw [this]; simp; congr 1; omega
    rw [List.length_cons, List.range'_succ, wpOps_cons]
    have next : ∀ (ρ' : Env) (v : AV) (x : Value) (H' : Heap) (nk' : Nat) (w' : World) (ob' : List Bool), Env.le ρ ρ' → RV ρ' v x → Rep ρ' H' B W.w w' → runOps P cs hi cal ops.toList l ⟨sput s.ss o.dst v, H', nk'⟩ = some (ob', s') → (∀ b ∈ ob', b = true) →
        wpOps P ops Q (List.range' (i + 1) l.length) (a.put o.dst x) w' := by
      intro ρ' v x H' nk' w' ob' h1 h2 h3 hrun hob'
      obtain ⟨p1, p2⟩ := (hst.sl.mono h1).put hst.len o.dst h2
      refine runOps_sound hcal l (i + 1) _ s' ob' hl' hrun hob' ρ' B W _ w' Q ⟨p1, p2, ?_, h3⟩ (fun ρ2 a2 w2 h4 h5 => hq ρ2 a2 w2 (h1.trans h4) h5)
      have : (a.put o.dst x).defers = a.defers := by cases o.dst <;> rfl
      rw [this]; exact hst.df
    simp only [runOps] at h
    split at h
    · rename_i E hE
      cases hr : runOps P cs hi cal ops.toList l ⟨sput s.ss o.dst E.v, Eff.app s.H E.wr, s.nk + 1⟩ with
      | none => simp [hr] at h
      | some r =>
        simp [hr] at h; obtain ⟨rfl, rfl⟩ := h
        exact opEff_sound hst.rep hst.sl ho' hE (fun b hb => hob b (by simp [hb])) fun ρ' x w' h1 h2 h3 => next ρ' E.v x _ _ w' r.1 h1 h2 h3 hr (fun b hb => hob b (by simp [hb]))
    · split at h <;> try contradiction
      rename_i f args ob0 hf hwa
      split at h <;> try contradiction
      rename_i ob1 v H' nk' hc
      cases hr : runOps P cs hi cal ops.toList l ⟨sput s.ss o.dst v, H', nk'⟩ with
      | none => simp [hr] at h
      | some r =>
        simp [hr] at h; obtain ⟨rfl, rfl⟩ := h
        have hwa := wantedA_sound hst.sl hwa (fun b hb => hob b (by simp [hb]))
        unfold calleeOf at hf
        split at hf <;> try contradiction
        rename_i c hop
        split at hf <;> try contradiction
        rename_i x hcb
        have hx := evS_RV hst.sl x
        split at hf <;> try contradiction
        rename_i g cap e
        split at hf <;> try contradiction
        rename_i hcc
        simp at hf; obtain ⟨rfl, rfl⟩ := hf
        simp only [Bool.and_eq_true] at hcc
        have e : evS s.rs.1 x = .fn g cap := e
        rw [e] at hx
        simp only [RV, RV1, RC] at hx
        obtain ⟨xs, hxs, e2⟩ := hx
        simp at e2
        have hcall := hcal _ _ _ _ _ _ _ _ hc (fun b hb => hob b (by simp [hb])) ρ B W.w w _ hst.rep (RV1s_append _ _ _ _ (evArgs_RV (a := a) hst.sl _ _ hcc.2) (RV1s_of_RCs _ _ hcc.1 hxs))
        unfold wpOp
        rw [ho']
        simp only
        rw [if_pos hwa]
        refine .inl ?_
        unfold Oper.wp
        rw [call_run (a := a) hop hcb e2]
        rcases hcall with ⟨y, hy, ρ', h1, h2, h3⟩ | ⟨hrun, hcalls⟩
        · rw [hy]
          exact next ρ' v y H' nk' w r.1 h1 h2 h3 hr (fun b hb => hob b (by simp [hb]))
        · rw [hrun]
          refine hcalls.mono ?_
          rintro en w' ⟨y, rfl, ρ', h1, h2, h3⟩
          exact next ρ' v y H' nk' w' r.1 h1 h2 h3 hr (fun b hb => hob b (by simp [hb]))

theorem region_sound {cs : List (Ctr P)} {hi : Hint} {cal : Cal} (hcal : CalOK P cal) {ops : Array Oper} {s s' : St} {ob : List Bool} {id : Nat} (h : runOps P cs hi cal ops.toList ops.toList s = some (ob, s')) (hob : ∀ b ∈ ob, b = true) :
    CodeOK P (.region id ops false) s .normal s' := by
  intro ρ B W a w Q hst hq
  refine wp_region ?_
  rw [List.range_eq_range', ← Array.length_toList]
  exact runOps_sound hcal ops.toList 0 s s' ob (by simp) h hob ρ B W a w Q hst hq
end
end Go.Proofs.Ytglcjmnkhmdlhaa

/- The symbolic run of a function's text: its statements, and calls. -/
namespace Go.Proofs.Ytglcjmnkhmdlhaa
open Go Go.RowKit

/-- A function that is walked into. -/
structure FI (P : Program) where
  f : Nat
  fn : Func
  body : Code
  hf : P.funcs[f]? = some fn
  hb : fn.body = some body
  hn : ∀ (xs : Array Value) (w : World), (callFunc f xs).run P w = .ok (.enter f xs) w

def child : Nat → Code → Option Code
  | 0, .seq a _ => some a
  | 1, .seq _ b => some b
  | 0, .cond _ a _ => some a
  | 1, .cond _ _ b => some b
  | 0, .block _ a => some a
  | 0, .loop a => some a
  | 0, .scope a => some a
  | 0, .rangeFunc _ _ a _ => some a
  | 1, .rangeFunc _ _ _ b => some b
  | _, _ => none

def subC (root : Code) : List Nat → Option Code
  | [] => some root
  | d :: p => (subC root p).bind (child d)

/-- What a loop comes to. -/
structure LC (P : Program) where
  f : Nat
  path : List Nat
  g : St → Option (List Bool × Ex × St)
  ok : ∀ (fi : FI P) (body : Code), fi.f = f → subC fi.body path = some (.loop body) → ∀ s ob e s', g s = some (ob, e, s') → (∀ b ∈ ob, b = true) → CodeOK P (.loop body) s e s'

structure EnvX (P : Program) where
  cs : List (Ctr P)
  fis : List (FI P)
  lcs : List (LC P)
  hint : Nat → Nat → St → Hint := fun _ _ _ => {}
  br : Nat → Nat → St → Option Bool := fun _ _ _ => none
  fix : Nat → Nat → List (Nat × AV) := fun _ _ => []

/-- Two values are one, if the tests that are noted down hold. -/
def sameAV : AV → AV → Option (List Bool)
  | .int k n, .int k' m => match kindEq k k' with
    | true => some [n == m]
    | false => none
  | .bool b, .bool c => some [b == c]
  | .u x, .u y => some [x == y]
  | .str s, .str t => some [decide (s = t)]
  | .ints k n l, .ints k' n' l' => match kindEq k k' with
    | true => some [Nat.beq n n' && (l == l')]
    | false => none
  | _, _ => none

theorem sameAV_eq {v v' : AV} {ob : List Bool} (h : sameAV v v' = some ob) (hob : ∀ b ∈ ob, b = true) : v = v' := by
  unfold sameAV at h
  split at h <;> try contradiction
  · split at h <;> try contradiction
    rename_i hk
    simp at h; subst h
    have := hob _ (List.mem_singleton.2 rfl)
    rw [kindEq_eq hk, eq_of_beq this]
  · simp at h; subst h
    have := hob _ (List.mem_singleton.2 rfl)
    rw [eq_of_beq this]
  · simp at h; subst h
    have := hob _ (List.mem_singleton.2 rfl)
    rw [eq_of_beq this]
  · simp at h; subst h
    have := hob _ (List.mem_singleton.2 rfl)
    rw [of_decide_eq_true this]
  · split at h <;> try contradiction
    rename_i hk
    simp at h; subst h
    have := hob _ (List.mem_singleton.2 rfl)
    simp only [Bool.and_eq_true, beq_iff_eq] at this
    rw [kindEq_eq hk, Nat.eq_of_beq_eq_true this.1, this.2]

/-- Slots, written otherwise. -/
def fixS : List (Nat × AV) → List AV → Option (List Bool × List AV)
  | [], ss => some ([], ss)
  | (t, v) :: l, ss => match sameAV (sget ss t) v with
    | some ob => (fixS l (sset ss t v)).map fun r => (ob ++ r.1, r.2)
    | none => none

theorem sset_self : ∀ (l : List AV) (t : Nat), sset l t (sget l t) = l
  | [], _ => rfl
  | _ :: l, 0 => rfl
  | x :: l, t + 1 => by simp [sset, sget, sset_self l t]

theorem fixS_eq : ∀ (l : List (Nat × AV)) (ss ss' : List AV) (ob : List Bool), fixS l ss = some (ob, ss') → (∀ b ∈ ob, b = true) → ss' = ss
  | [], ss, ss', ob, h, _ => by simp [fixS] at h; exact h.2.symm
  | (t, v) :: l, ss, ss', ob, h, hob => by
    simp only [fixS] at h
    split at h <;> try contradiction
    rename_i o1 h1
    cases hr : fixS l (sset ss t v) with
    | none => simp [hr] at h
    | some r =>
      simp [hr] at h; obtain ⟨rfl, rfl⟩ := h
      have e1 := sameAV_eq h1 (fun b hb => hob b (by simp [hb]))
      have := fixS_eq l _ r.2 r.1 hr (fun b hb => hob b (by simp [hb]))
      rw [this, ← e1, sset_self]

def fixSt (l : List (Nat × AV)) (r : List Bool × St) : Option (List Bool × St) :=
  match l with
  | [] => some r
  | x :: l => (fixS (x :: l) r.2.ss).map fun q => (r.1 ++ q.1, { r.2 with ss := q.2 })

theorem fixSt_eq {l : List (Nat × AV)} {r q : List Bool × St} (h : fixSt l r = some q) (hob : ∀ b ∈ q.1, b = true) : q.2 = r.2 ∧ (∀ b ∈ r.1, b = true) := by
  cases l with
  | nil => simp [fixSt] at h; subst h; exact ⟨rfl, hob⟩
  | cons x l =>
    simp only [fixSt] at h
    cases hr : fixS (x :: l) r.2.ss with
    | none => simp [hr] at h
    | some q' =>
      simp [hr] at h; subst h
      have := fixS_eq _ _ q'.2 q'.1 hr (fun b hb => hob b (by simp [hb]))
      refine ⟨?_, fun b hb => hob b (by simp [hb])⟩
      simp only [this]

def natsEq : List Nat → List Nat → Bool
  | [], [] => true
  | x :: l, y :: m => Nat.beq x y && natsEq l m
  | _, _ => false
theorem natsEq_eq : ∀ (l m : List Nat), natsEq l m = true → l = m
  | [], [], _ => rfl
  | [], _ :: _, h => by simp [natsEq] at h
  | _ :: _, [], h => by simp [natsEq] at h
  | x :: l, y :: m, h => by
    simp only [natsEq, Bool.and_eq_true] at h
    rw [Nat.eq_of_beq_eq_true h.1, natsEq_eq l m h.2]

def findL {P : Program} (f : Nat) (path : List Nat) : List (LC P) → Option (LC P)
  | [] => none
  | c :: l => match Nat.beq c.f f && natsEq c.path path with
    | true => some c
    | false => findL f path l
theorem findL_spec {P : Program} {f : Nat} {path : List Nat} : ∀ (l : List (LC P)) (c : LC P), findL f path l = some c → c.f = f ∧ c.path = path
  | [], c, h => by simp [findL] at h
  | d :: l, c, h => by
    simp only [findL] at h
    split at h
    · rename_i hb
      simp only [Bool.and_eq_true] at hb
      simp at h; subst h
      exact ⟨Nat.eq_of_beq_eq_true hb.1, natsEq_eq _ _ hb.2⟩
    · exact findL_spec l c h

def findF {P : Program} (f : Nat) : List (FI P) → Option (FI P)
  | [] => none
  | c :: l => match Nat.beq c.f f with
    | true => some c
    | false => findF f l
theorem findF_spec {P : Program} {f : Nat} : ∀ (l : List (FI P)) (c : FI P), findF f l = some c → c.f = f
  | [], c, h => by simp [findF] at h
  | d :: l, c, h => by
    simp only [findF] at h
    split at h
    · rename_i hb; simp at h; subst h; exact Nat.eq_of_beq_eq_true hb
    · exact findF_spec l c h

abbrev Res := Option (List Bool × Ex × Nat × St)

/-- A loop, round by round. -/
def loopX (body : Nat → St → Res) : Nat → Nat → St → Res
  | 0, _, _ => none
  | n + 1, last, s => match body last s with
    | some (ob, .normal, last', s') => (loopX body n last' s').map fun r => (ob ++ r.1, r.2)
    | r => r

/-- What a function gives back. -/
def resVar (P : Program) (ss : List AV) (H : Heap) : ResultVar → Option AV
  | .tmp t => match sget ss t with
    | v => match v.noTup with
      | true => some v
      | false => none
  | .cell t T => match effLoad P false ss (hget H) T (.tmp t) with
    | some E => match E.ob, E.v.noTup with
      | [], true => some E.v
      | _, _ => none
    | none => none

def resVars (P : Program) (ss : List AV) (H : Heap) : List ResultVar → Option (List AV)
  | [] => some []
  | r :: l => match resVar P ss H r with
    | some v => (resVars P ss H l).map (v :: ·)
    | none => none

def resAV (P : Program) (ss : List AV) (H : Heap) (l : List ResultVar) : Option AV :=
  match resVars P ss H l with
  | some [v] => some v
  | some l => some (.tup l)
  | none => none

def callX {P : Program} (X : EnvX P) (ex : FI P → List Nat → Nat → Code → St → Res) : Cal := fun f args H nk =>
  match findF f X.fis with
  | some fi => match ex fi [] 0 fi.body ⟨args ++ List.replicate (fi.fn.ntmps - args.length) .undef, H, nk⟩ with
    | some (ob, e, _, s') => match e with
      | .exit _ => none
      | _ => (resAV P s'.ss s'.H fi.fn.results.toList).map fun v => (ob, v, s'.H, s'.nk)
    | none => none
  | none => none

def execStep {P : Program} (X : EnvX P) (ex : FI P → List Nat → Nat → Code → St → Res) (m : Nat) (fi : FI P) (path : List Nat) (last : Nat) (c : Code) (s : St) : Res :=
    match c with
    | .skip => some ([], .normal, last, s)
    | .label _ => some ([], .normal, last, s)
    | .ret => some ([], .ret, last, s)
    | .exit id => some ([], .exit id, last, s)
    | .region id ops draw => match draw with
      | true => ((drawn P X.cs (X.hint fi.f id s) ops s).bind (fixSt (X.fix fi.f id))).map fun r => (r.1, .normal, id, r.2)
      | false => ((runOps P X.cs (X.hint fi.f id s) (callX X ex) ops.toList ops.toList s).bind (fixSt (X.fix fi.f id))).map fun r => (r.1, .normal, id, r.2)
    | .seq a b => match ex fi (0 :: path) last a s with
      | some (ob, .normal, last', s') => (ex fi (1 :: path) last' b s').map fun r => (ob ++ r.1, r.2)
      | r => r
    | .cond c a b => match evS s.ss c with
      | .bool t => match X.br fi.f last s with
        | some d => (match d with
          | true => ex fi (0 :: path) last a s
          | false => ex fi (1 :: path) last b s).map fun (r : List Bool × Ex × Nat × St) => ((t == d) :: r.1, r.2)
        | none => match t with
          | true => ex fi (0 :: path) last a s
          | false => ex fi (1 :: path) last b s
      | _ => none
    | .block id a => match ex fi (0 :: path) last a s with
      | some (ob, .exit id', last', s') => match Nat.beq id' id with
        | true => some (ob, .normal, last', s')
        | false => some (ob, .exit id', last', s')
      | r => r
    | .loop a => match findL fi.f path X.lcs with
      | some lc => (lc.g s).map fun r => (r.1, r.2.1, last, r.2.2)
      | none => loopX (fun last s => ex fi (0 :: path) last a s) m last s
    | _ => none

def exec {P : Program} (X : EnvX P) (n : Nat) : FI P → List Nat → Nat → Code → St → Res :=
  n.rec (fun _ _ _ _ _ => none) fun m ex => execStep X ex m

/-- What a result's place holds. -/
def resOne (tmps : Array Value) : ResultVar → Sem Value
  | .tmp t => Pure.pure (tmps.getD t undef)
  | .cell t T => do loadVar T (← asAddr (tmps.getD t undef))

theorem results_eq (fn : Func) (tmps : Array Value) : results fn tmps = (fn.results.mapM (resOne tmps) >>= fun vs => Pure.pure (if h : vs.size = 1 then vs[0] else .tuple vs)) := by
  unfold results
  congr 2

section
variable {P : Program}

theorem CodeOK.seq {a b : Code} {s s1 s2 : St} {e : Ex} (h1 : CodeOK P a s .normal s1) (h2 : CodeOK P b s1 e s2) : CodeOK P (.seq a b) s e s2 := by
  intro ρ B W ac w Q hst hq
  refine wp_seq (h1 ρ B W ac w _ hst fun ρ' a' w' hle hst' => ?_)
  exact h2 ρ' B W a' w' Q hst' fun ρ2 a2 w2 h hst2 => hq ρ2 a2 w2 (hle.trans h) hst2

theorem CodeOK.seq_out {a b : Code} {s s1 : St} {e : Ex} (h1 : CodeOK P a s e s1) (hne : e ≠ .normal) : CodeOK P (.seq a b) s e s1 := by
  intro ρ B W ac w Q hst hq
  refine wp_seq (h1 ρ B W ac w _ hst fun ρ' a' w' hle hst' => ?_)
  cases e with
  | normal => exact absurd rfl hne
  | exit id => exact hq ρ' a' w' hle hst'
  | ret => exact hq ρ' a' w' hle hst'

theorem CodeOK.block_in {id : Nat} {a : Code} {s s1 : St} (h1 : CodeOK P a s (.exit id) s1) : CodeOK P (.block id a) s .normal s1 := by
  intro ρ B W ac w Q hst hq
  refine wp_block (h1 ρ B W ac w _ hst fun ρ' a' w' hle hst' => ?_)
  simp only [Ex.to, Exit.inBlock, if_true]
  exact hq ρ' a' w' hle hst'

theorem CodeOK.block_out {id : Nat} {a : Code} {s s1 : St} {e : Ex} (h1 : CodeOK P a s e s1) (hne : e ≠ .exit id) : CodeOK P (.block id a) s e s1 := by
  intro ρ B W ac w Q hst hq
  refine wp_block (h1 ρ B W ac w _ hst fun ρ' a' w' hle hst' => ?_)
  cases e with
  | normal => exact hq ρ' a' w' hle hst'
  | exit id' =>
    simp only [Ex.to, Exit.inBlock]
    rw [if_neg (fun h => hne (by rw [h]))]
    exact hq ρ' a' w' hle hst'
  | ret => exact hq ρ' a' w' hle hst'

theorem CodeOK.cond {c : Operand} {a b : Code} {s s1 : St} {e : Ex} {t : Bool} (hc : evS s.ss c = .bool t) (h : CodeOK P (if t then a else b) s e s1) : CodeOK P (.cond c a b) s e s1 := by
  intro ρ B W ac w Q hst hq
  have hv := evS_RV hst.sl c
  have hc : evS s.rs.1 c = .bool t := hc
  rw [hc] at hv
  exact wp_cond (RV_bool hv) (h ρ B W ac w Q hst hq)

theorem loop_sound {c : Code} {body : Nat → St → Res} (hb : ∀ last s ob e last' s', body last s = some (ob, e, last', s') → (∀ b ∈ ob, b = true) → CodeOK P c s e s') :
    ∀ (n last : Nat) (s : St) (ob : List Bool) (e : Ex) (last' : Nat) (s' : St), loopX body n last s = some (ob, e, last', s') → (∀ b ∈ ob, b = true) →
    ∀ (ρ : Env) (B : Fr) (W : WD) (a : Act) (w : World) (Q : Exit → Act → World → Prop), StS ρ s B W a w → (∀ ρ' a' w', Env.le ρ ρ' → StS ρ' s' B W a' w' → Q e.to a' w') → Code.rounds P c Q n a w
  | 0, last, s, ob, e, last', s', h, _, ρ, B, W, a, w, Q, _, _ => by simp [loopX] at h
  | n + 1, last, s, ob, e, last', s', h, hob, ρ, B, W, a, w, Q, hst, hq => by
    rw [rounds_succ]
    simp only [loopX] at h
    split at h
    · rename_i ob1 last1 s1 h1
      cases hr : loopX body n last1 s1 with
      | none => simp [hr] at h
      | some r =>
        obtain ⟨ob2, e2, l2, s2⟩ := r
        simp [hr] at h; obtain ⟨rfl, rfl, rfl, rfl⟩ := h
        refine hb _ _ _ _ _ _ h1 (fun b hb => hob b (by simp [hb])) ρ B W a w _ hst fun ρ' a' w' hle hst' => ?_
        exact loop_sound hb n last1 s1 ob2 e2 l2 s2 hr (fun b hb => hob b (by simp [hb])) ρ' B W a' w' Q hst' fun ρ2 a2 w2 h3 h4 => hq ρ2 a2 w2 (hle.trans h3) h4
    · rename_i hne
      refine hb _ _ _ _ _ _ h hob ρ B W a w _ hst fun ρ' a' w' hle hst' => ?_
      cases e with
      | normal => exact absurd h (hne _ _ _)
      | exit id => exact hq ρ' a' w' hle hst'
      | ret => exact hq ρ' a' w' hle hst'

theorem resVar_sound {ρ : Env} {s : St} {B : Fr} {W : WD} {w : World} {a : Act} (hst : StS ρ s B W a w) {r : ResultVar} {v : AV} (h : resVar P s.ss s.H r = some v) :
    ∃ x, (resOne a.tmps r).run P w = .ok x w ∧ RV1 ρ v x := by
  cases r with
  | tmp t =>
    simp only [resVar] at h
    split at h <;> try contradiction
    rename_i hn
    simp at h; subst h
    exact ⟨_, rfl, RV1_of_RV (hst.sl t) hn⟩
  | cell t T =>
    simp only [resVar] at h
    split at h <;> try contradiction
    rename_i E hE
    split at h <;> try contradiction
    rename_i hob hn
    simp at h; subst h
    unfold effLoad at hE
    have hx := hst.sl t
    split at hE <;> try contradiction
    rename_i k p he
    have he : sget s.rs.1 t = .ptr k p := he
    rw [he] at hx
    obtain ⟨ad, ex, hp⟩ := RV_ptr hx
    split at hE <;> try contradiction
    rename_i b hk
    split at hE <;> try contradiction
    rename_i ob c d hg hd
    have key : (if isAggT P T = true then c.isAgg = true ∧ c.size = P.cellsOf T else c.one = true) ∧ E = { v := c, ob := ob, rd := [k] } := by
      split at hE
      · rename_i ht
        split at hE <;> try contradiction
        rename_i hc
        simp only [Bool.and_eq_true] at hc
        simp at hE
        rw [if_pos ht]
        exact ⟨⟨hc.1, Nat.eq_of_beq_eq_true hc.2⟩, hE.symm⟩
      · rename_i ht
        split at hE <;> try contradiction
        rename_i hc
        simp at hE
        rw [if_neg (by simp [ht])]
        exact ⟨hc, hE.symm⟩
    obtain ⟨hT, rfl⟩ := key
    simp only at hob hn ⊢
    subst hob
    obtain ⟨y, hy, hv⟩ := loadVar_run false hst.rep hk hp hg (by simp) hd hT
    exact ⟨y, by simp [resOne, ex, asAddr, hy], RV1_of_RV hv hn⟩

theorem resVars_sound {ρ : Env} {s : St} {B : Fr} {W : WD} {w : World} {a : Act} (hst : StS ρ s B W a w) : ∀ (l : List ResultVar) (vs : List AV), resVars P s.ss s.H l = some vs →
    ∃ xs, (l.mapM (resOne a.tmps)).run P w = .ok xs w ∧ RV1s ρ vs xs
  | [], vs, h => by simp [resVars] at h; subst h; exact ⟨[], by simp, by simp [RV1s]⟩
  | r :: l, vs, h => by
    simp only [resVars] at h
    split at h <;> try contradiction
    rename_i v hv
    cases hr : resVars P s.ss s.H l with
    | none => simp [hr] at h
    | some vs' =>
      simp [hr] at h; subst h
      obtain ⟨x, hx, h1⟩ := resVar_sound hst hv
      obtain ⟨xs, hxs, h2⟩ := resVars_sound hst l vs' hr
      refine ⟨x :: xs, ?_, by simp only [RV1s]; exact ⟨x, xs, h1, h2, rfl⟩⟩
      rw [List.mapM_cons, Sem.run_bind, hx, Result.andThen_ok, Sem.run_bind, hxs]
      rfl

theorem RV1s_length {ρ : Env} : ∀ (l : List AV) (xs : List Value), RV1s ρ l xs → xs.length = l.length
  | [], xs, h => by simp only [RV1s] at h; subst h; rfl
  | v :: l, xs, h => by
    simp only [RV1s] at h
    obtain ⟨x, ys, _, h2, rfl⟩ := h
    simp [RV1s_length l ys h2]

theorem resAV_sound {ρ : Env} {s : St} {B : Fr} {W : WD} {w : World} {a : Act} {fn : Func} {v : AV} (hst : StS ρ s B W a w) (h : resAV P s.ss s.H fn.results.toList = some v) : ∃ x, (results fn a.tmps).run P w = .ok x w ∧ RV ρ v x := by
  unfold resAV at h
  have run : ∀ vs, resVars P s.ss s.H fn.results.toList = some vs → ∃ xs : List Value, (results fn a.tmps).run P w = .ok (if h : xs.toArray.size = 1 then xs.toArray[0] else .tuple xs.toArray) w ∧ RV1s ρ vs xs := by
    intro vs hvs
    obtain ⟨xs, h1, h2⟩ := resVars_sound hst _ vs hvs
    refine ⟨xs, ?_, h2⟩
    rw [results_eq, Sem.run_bind, Array.mapM_eq_mapM_toList, Sem.run_map, h1]
    rfl
  split at h <;> try contradiction
  · rename_i u hvs
    simp at h; subst h
    obtain ⟨xs, h1, h2⟩ := run _ hvs
    simp only [RV1s] at h2
    obtain ⟨x, ys, hx, rfl, rfl⟩ := h2
    exact ⟨x, by simpa using h1, RV_of_RV1 hx⟩
  · rename_i vs hne hvs
    simp at h; subst h
    obtain ⟨xs, h1, h2⟩ := run _ hvs
    refine ⟨.tuple xs.toArray, ?_, by simp only [RV]; exact ⟨xs, h2, rfl⟩⟩
    rw [h1]
    have hl := RV1s_length _ _ h2
    rw [dif_neg]
    intro h1
    have : vs.length = 1 := by rw [← hl]; simpa using h1
    match vs, this with
    | [u], _ => exact hne u rfl

theorem RV1s_slots {ρ : Env} : ∀ (l : List AV) (xs : List Value) (n : Nat), RV1s ρ l xs → SlotsR ρ (l ++ List.replicate n .undef) (xs ++ List.replicate n undef).toArray
  | [], xs, n, h => by
    simp only [RV1s] at h; subst h
    intro i
    have : sget ([] ++ List.replicate n .undef) i = .undef := by
      simp only [List.nil_append]
      induction n generalizing i with
      | zero => rfl
      | succ n ih => cases i with
        | zero => rfl
        | succ i => exact ih i
    rw [this]
    simp only [RV, RV1, List.nil_append, Array.getD_eq_getD_getElem?, List.getElem?_toArray, List.getElem?_replicate]
    split <;> rfl
  | v :: l, xs, n, h => by
    simp only [RV1s] at h
    obtain ⟨x, ys, h1, h2, rfl⟩ := h
    intro i
    cases i with
    | zero => simpa [sget] using RV_of_RV1 h1
    | succ i =>
      have := RV1s_slots l ys n h2 i
      simpa [sget] using this

theorem call_sound {X : EnvX P} {ex : FI P → List Nat → Nat → Code → St → Res} (hex : ∀ (fi : FI P) path last c s ob e last' s', subC fi.body path = some c → ex fi path last c s = some (ob, e, last', s') → (∀ b ∈ ob, b = true) → CodeOK P c s e s') : CalOK P (callX X ex) := by
  intro f args H nk ob v H' nk' h hob ρ B W w xs hrep hargs
  unfold callX at h
  split at h <;> try contradiction
  rename_i fi hfi
  have hff := findF_spec _ _ hfi
  refine .inr ⟨by rw [← hff]; exact fi.hn _ _, ?_⟩
  split at h <;> try contradiction
  rename_i ob' e last' s' hr
  split at h <;> try contradiction
  rename_i hne
  cases hv : resAV P s'.ss s'.H fi.fn.results.toList with
  | none => simp [hv] at h
  | some u =>
    simp [hv] at h; obtain ⟨rfl, rfl, rfl, rfl⟩ := h
    have hok := hex fi [] 0 fi.body _ _ _ _ _ rfl hr hob
    rw [← hff]
    refine calls_of_wp fi.hf fi.hb (hok ρ B ⟨W, []⟩ _ w _ ⟨?_, ?_, rfl, hrep⟩ ?_)
    · have := RV1s_slots args xs (fi.fn.ntmps - args.length) hargs
      have hl := RV1s_length _ _ hargs
      have e1 : (xs ++ List.replicate (fi.fn.ntmps - args.length) undef).toArray = xs.toArray ++ Array.replicate (fi.fn.ntmps - xs.toArray.size) undef := by simp [hl]
      rw [e1] at this
      exact this
    · have hl := RV1s_length _ _ hargs
      simp [hl]
    · intro ρ' a' w' hle hst
      obtain ⟨x, hx, hxv⟩ := resAV_sound (fn := fi.fn) hst hv
      cases e with
      | normal => exact ⟨hst.df, x, hx, x, rfl, ρ', hle, hxv, hst.rep⟩
      | ret => exact ⟨hst.df, x, hx, x, rfl, ρ', hle, hxv, hst.rep⟩
      | exit id => exact absurd rfl (hne _)

theorem exec_sound (hm : P.follows .mixedOrders = true) (X : EnvX P) : ∀ (n : Nat) (fi : FI P) (path : List Nat) (last : Nat) (c : Code) (s : St) (ob : List Bool) (e : Ex) (last' : Nat) (s' : St), subC fi.body path = some c →
    exec X n fi path last c s = some (ob, e, last', s') → (∀ b ∈ ob, b = true) → CodeOK P c s e s'
  | 0, _, _, _, _, _, _, _, _, _, _, h, _ => by simp [exec] at h
  | n + 1, fi, path, last, c, s, ob, e, last', s', hsub, h, hob => by
    have ih := exec_sound hm X n
    have hcal : CalOK P (callX X (exec X n)) := call_sound ih
    have child_sub : ∀ d b, child d c = some b → subC fi.body (d :: path) = some b := fun d b hd => by simp [subC, hsub, hd]
    have h : execStep X (exec X n) n fi path last c s = some (ob, e, last', s') := h
    unfold execStep at h
    cases c with
    | skip =>
      simp at h; obtain ⟨rfl, rfl, rfl, rfl⟩ := h
      intro ρ B W a w Q hst hq
      exact wp_skip (hq ρ a w (Env.le.refl ρ) hst)
    | label l =>
      simp at h; obtain ⟨rfl, rfl, rfl, rfl⟩ := h
      intro ρ B W a w Q hst hq
      exact wp_label (hq ρ a w (Env.le.refl ρ) hst)
    | ret =>
      simp at h; obtain ⟨rfl, rfl, rfl, rfl⟩ := h
      intro ρ B W a w Q hst hq
      exact wp_ret (hq ρ a w (Env.le.refl ρ) hst)
    | exit id =>
      simp at h; obtain ⟨rfl, rfl, rfl, rfl⟩ := h
      intro ρ B W a w Q hst hq
      exact wp_exit (hq ρ a w (Env.le.refl ρ) hst)
    | region id ops draw =>
      simp only at h
      cases draw with
      | true =>
        simp only at h
        cases hd : drawn P X.cs (X.hint fi.f id s) ops s with
        | none => simp [hd] at h
        | some r =>
          simp only [hd, Option.bind_some] at h
          cases hfx : fixSt (X.fix fi.f id) r with
          | none => simp [hfx] at h
          | some q =>
            simp [hfx] at h; obtain ⟨rfl, rfl, rfl, rfl⟩ := h
            obtain ⟨h1, h2⟩ := fixSt_eq hfx hob
            rw [h1]
            exact drawn_sound hm hd h2
      | false =>
        simp only at h
        cases hd : runOps P X.cs (X.hint fi.f id s) (callX X (exec X n)) ops.toList ops.toList s with
        | none => simp [hd] at h
        | some r =>
          simp only [hd, Option.bind_some] at h
          cases hfx : fixSt (X.fix fi.f id) r with
          | none => simp [hfx] at h
          | some q =>
            simp [hfx] at h; obtain ⟨rfl, rfl, rfl, rfl⟩ := h
            obtain ⟨h1, h2⟩ := fixSt_eq hfx hob
            rw [h1]
            exact region_sound hcal hd h2
    | seq a b =>
      simp only at h
      split at h
      · rename_i ob1 last1 s1 h1
        cases hr : exec X n fi (1 :: path) last1 b s1 with
        | none => simp [hr] at h
        | some r =>
          obtain ⟨ob2, e2, l2, s2⟩ := r
          simp [hr] at h; obtain ⟨rfl, rfl, rfl, rfl⟩ := h
          exact (ih fi _ _ _ _ _ _ _ _ (child_sub 0 a rfl) h1 (fun b hb => hob b (by simp [hb]))).seq (ih fi _ _ _ _ _ _ _ _ (child_sub 1 b rfl) hr (fun b hb => hob b (by simp [hb])))
      · rename_i hne
        exact (ih fi _ _ _ _ _ _ _ _ (child_sub 0 a rfl) h hob).seq_out (fun e0 => by subst e0; exact hne _ _ _ h)
    | cond c a b =>
      simp only at h
      split at h <;> try contradiction
      rename_i t ht
      split at h
      · rename_i d _
        cases d with
        | true =>
          (try simp only at h)
          cases hr : exec X n fi (0 :: path) last a s with
          | none => simp [hr] at h
          | some r =>
            obtain ⟨ob2, e2, l2, s2⟩ := r
            simp [hr] at h; obtain ⟨rfl, rfl, rfl, rfl⟩ := h
            have := hob t (by simp)
            refine CodeOK.cond ht ?_
            rw [this]
            exact ih fi _ _ _ _ _ _ _ _ (child_sub 0 a rfl) hr (fun b hb => hob b (by simp [hb]))
        | false =>
          (try simp only at h)
          cases hr : exec X n fi (1 :: path) last b s with
          | none => simp [hr] at h
          | some r =>
            obtain ⟨ob2, e2, l2, s2⟩ := r
            simp [hr] at h; obtain ⟨rfl, rfl, rfl, rfl⟩ := h
            have := hob (!t) (by simp)
            refine CodeOK.cond ht ?_
            simp at this
            rw [this]
            exact ih fi _ _ _ _ _ _ _ _ (child_sub 1 b rfl) hr (fun b hb => hob b (by simp [hb]))
      · refine CodeOK.cond ht ?_
        cases t with
        | true => exact ih fi _ _ _ _ _ _ _ _ (child_sub 0 a rfl) h hob
        | false => exact ih fi _ _ _ _ _ _ _ _ (child_sub 1 b rfl) h hob
    | block id a =>
      simp only at h
      split at h
      · rename_i ob1 id' last1 s1 h1
        split at h
        · rename_i hb
          have hb := Nat.eq_of_beq_eq_true hb
          simp only [Option.some.injEq, Prod.mk.injEq] at h
          obtain ⟨rfl, rfl, rfl, rfl⟩ := h
          rw [hb] at h1
          exact (ih fi _ _ _ _ _ _ _ _ (child_sub 0 a rfl) h1 hob).block_in
        · rename_i hb
          simp at h; obtain ⟨rfl, rfl, rfl, rfl⟩ := h
          refine (ih fi _ _ _ _ _ _ _ _ (child_sub 0 a rfl) h1 hob).block_out ?_
          intro e0
          simp at e0; subst e0
          simp at hb
      · rename_i hne
        exact (ih fi _ _ _ _ _ _ _ _ (child_sub 0 a rfl) h hob).block_out (fun e0 => by subst e0; exact hne _ _ _ _ h)
    | loop a =>
      simp only at h
      split at h
      · rename_i lc hlc
        obtain ⟨l1, l2⟩ := findL_spec _ _ hlc
        cases hr : lc.g s with
        | none => simp [hr] at h
        | some r =>
          obtain ⟨ob2, e2, s2⟩ := r
          simp [hr] at h; obtain ⟨rfl, rfl, rfl, rfl⟩ := h
          exact lc.ok fi a l1.symm (by rw [l2]; exact hsub) s _ _ _ hr hob
      · intro ρ B W ac w Q hst hq
        refine wp_loop_rounds n (loop_sound (c := a) ?_ n last s ob e last' s' h hob ρ B W ac w Q hst hq)
        intro last s ob e last' s' hr hob
        exact ih fi _ _ _ _ _ _ _ _ (child_sub 0 a rfl) hr hob
    | _ => simp at h

/-- A call, run symbolically. -/
theorem Calls.of_exec (hm : P.follows .mixedOrders = true) (X : EnvX P) (n f nk : Nat) (args : List AV) (H H' : Heap) (ob : List Bool) (v : AV) (nk' : Nat) (h : callX X (exec X n) f args H nk = some (ob, v, H', nk')) (hob : ∀ b ∈ ob, b = true)
    {ρ : Env} {B : Fr} {W w : World} {xs : List Value} (hr : Rep ρ H B W w) (ha : RV1s ρ args xs) :
    CallOK P f xs.toArray w fun x w' => ∃ ρ', Env.le ρ ρ' ∧ RV ρ' v x ∧ Rep ρ' H' B W w' :=
  call_sound (exec_sound hm X n) _ _ _ _ _ _ _ _ h hob _ _ _ _ _ hr ha
end
end Go.Proofs.Ytglcjmnkhmdlhaa

/- Contracts of functions that hang on their arguments alone. -/
namespace Go.Proofs.Ytglcjmnkhmdlhaa
open Go Go.RowKit

def ρ0 : Env := fun _ => none

/-- A row of four numbers as one of 256 bits. -/
def uOf4 (k : IntKind) (n : Nat) (l : List Int) : Option (List Bool × BitVec 256) :=
  match Nat.beq n 4 with
  | true => uOf true (.ints k n l)
  | false => none
theorem uOf4_eq {k : IntKind} {n : Nat} {l : List Int} {r : List Bool × BitVec 256} (h : uOf4 k n l = some r) : uOf true (.ints k n l) = some r := by
  unfold uOf4 at h; split at h <;> first | exact h | contradiction

mutual
/-- Without places, and numbers of 256 bits as such. -/
def norm : AV → Option (List Bool × AV)
  | .bool b => some ([], .bool b)
  | .int k n => some ([], .int k n)
  | .str s => some ([], .str s)
  | .u x => some ([], .u x)
  | .ints k n l => match uOf4 k n l with
    | some (ob, x) => some (ob, .u x)
    | none => some ([], .ints k n l)
  | .agg l => (normL l).map fun r => (r.1, .agg r.2)
  | .nilp => some ([], .nilp)
  | .nilsl => some ([], .nilsl)
  | .nilfn => some ([], .nilfn)
  | .fn f cap => match cap with
    | [] => some ([], .fn f [])
    | _ => none
  | _ => none
def normL : List AV → Option (List Bool × List AV)
  | [] => some ([], [])
  | v :: l => match norm v with
    | some (o1, v') => (normL l).map fun r => (o1 ++ r.1, v' :: r.2)
    | none => none
end

mutual
theorem norm_RC {ρ : Env} : ∀ (v : AV) (cs : List Value) (ob : List Bool) (v' : AV), RC ρ v cs → norm v = some (ob, v') → (∀ b ∈ ob, b = true) → RC ρ0 v' cs
  | .bool b, cs, ob, v', hr, h, _ => by simp [norm] at h; obtain ⟨_, rfl⟩ := h; simpa only [RC] using hr
  | .int k n, cs, ob, v', hr, h, _ => by simp [norm] at h; obtain ⟨_, rfl⟩ := h; simpa only [RC] using hr
  | .str s, cs, ob, v', hr, h, _ => by simp [norm] at h; obtain ⟨_, rfl⟩ := h; simpa only [RC] using hr
  | .u y, cs, ob, v', hr, h, _ => by simp [norm] at h; obtain ⟨_, rfl⟩ := h; simpa only [RC] using hr
  | .ints k n l, cs, ob, v', hr, h, hob => by
    simp only [norm] at h
    split at h
    · rename_i o x hu
      simp at h; obtain ⟨rfl, rfl⟩ := h
      have := uOf_sound (uOf4_eq hu) hob hr
      simpa only [RC] using this
    · simp at h; obtain ⟨_, rfl⟩ := h
      simpa only [RC] using hr
  | .agg l, cs, ob, v', hr, h, hob => by
    simp only [norm] at h
    cases hl : normL l with
    | none => simp [hl] at h
    | some r =>
      simp [hl] at h; obtain ⟨rfl, rfl⟩ := h
      simp only [RC] at hr ⊢
      exact normL_RC l cs r.1 r.2 hr hl hob
  | .nilp, cs, ob, v', hr, h, _ => by simp [norm] at h; obtain ⟨_, rfl⟩ := h; simpa only [RC] using hr
  | .nilsl, cs, ob, v', hr, h, _ => by simp [norm] at h; obtain ⟨_, rfl⟩ := h; simpa only [RC] using hr
  | .nilfn, cs, ob, v', hr, h, _ => by simp [norm] at h; obtain ⟨_, rfl⟩ := h; simpa only [RC] using hr
  | .fn f cap, cs, ob, v', hr, h, _ => by
    simp only [norm] at h
    split at h <;> try contradiction
    simp at h; obtain ⟨_, rfl⟩ := h
    simpa only [RC, RCs] using hr
  | .any, cs, ob, v', hr, h, _ => by simp [norm] at h
  | .undef, cs, ob, v', hr, h, _ => by simp [norm] at h
  | .tup l, cs, ob, v', hr, h, _ => by simp [norm] at h
  | .ptr k p, cs, ob, v', hr, h, _ => by simp [norm] at h
  | .sl k p n c, cs, ob, v', hr, h, _ => by simp [norm] at h
  | .raw v, cs, ob, v', hr, h, _ => by simp [norm] at h
theorem normL_RC {ρ : Env} : ∀ (l : List AV) (cs : List Value) (ob : List Bool) (l' : List AV), RCs ρ l cs → normL l = some (ob, l') → (∀ b ∈ ob, b = true) → RCs ρ0 l' cs
  | [], cs, ob, l', hr, h, _ => by simp [normL] at h; obtain ⟨_, rfl⟩ := h; simpa only [RCs] using hr
  | v :: l, cs, ob, l', hr, h, hob => by
    simp only [normL] at h
    split at h <;> try contradiction
    rename_i o1 v' hv
    cases hl : normL l with
    | none => simp [hl] at h
    | some r =>
      simp [hl] at h; obtain ⟨rfl, rfl⟩ := h
      simp only [RCs] at hr ⊢
      obtain ⟨c1, c2, h1, h2, rfl⟩ := hr
      exact ⟨c1, c2, norm_RC v c1 o1 v' h1 hv (fun b hb => hob b (by simp [hb])), normL_RC l c2 r.1 r.2 h2 hl (fun b hb => hob b (by simp [hb])), rfl⟩
end

theorem norm_kind : ∀ (v : AV) (ob : List Bool) (v' : AV), norm v = some (ob, v') → (v.isAgg = true ∧ v'.isAgg = true) ∨ (v.one = true ∧ v' = v)
  | v, ob, v', h => by
    cases v <;> simp only [norm] at h <;> try contradiction
    case agg l =>
      cases hl : normL l with
      | none => simp [hl] at h
      | some r => simp [hl] at h; obtain ⟨rfl, rfl⟩ := h; exact .inl ⟨rfl, rfl⟩
    case ints k n l =>
      split at h <;> simp at h <;> obtain ⟨rfl, rfl⟩ := h <;> exact .inl ⟨rfl, rfl⟩
    case u x => simp at h; obtain ⟨rfl, rfl⟩ := h; exact .inl ⟨rfl, rfl⟩
    case fn f cap =>
      split at h <;> simp at h
      obtain ⟨rfl, rfl⟩ := h
      exact .inr ⟨rfl, rfl⟩
    all_goals (simp at h; obtain ⟨rfl, rfl⟩ := h; exact .inr ⟨rfl, rfl⟩)

theorem norm_RV1 {ρ : Env} {v : AV} {x : Value} {ob : List Bool} {v' : AV} (hr : RV1 ρ v x) (h : norm v = some (ob, v')) (hob : ∀ b ∈ ob, b = true) : RV1 ρ0 v' x := by
  rcases norm_kind v ob v' h with ⟨h1, h2⟩ | ⟨h1, rfl⟩
  · obtain ⟨cs, rfl, hc⟩ := RV_agg (RV_of_RV1 hr) h1
    have := norm_RC v cs ob v' hc h hob
    have hn : v'.noTup = true := by cases v' <;> first | rfl | simp [AV.isAgg] at h2
    exact RV1_of_RV (RV.of_cells this h2) hn
  · have hc : RC ρ v' [x] := by
      cases v' <;> simp only [AV.one] at h1 <;> first | contradiction | exact hr
    have := norm_RC v' [x] ob v' hc h hob
    cases v' <;> simp only [AV.one] at h1 <;> first | contradiction | exact this

theorem normL_RV1s {ρ : Env} : ∀ (l : List AV) (xs : List Value) (ob : List Bool) (l' : List AV), RV1s ρ l xs → normL l = some (ob, l') → (∀ b ∈ ob, b = true) → RV1s ρ0 l' xs
  | [], xs, ob, l', hr, h, _ => by simp [normL] at h; obtain ⟨_, rfl⟩ := h; simpa only [RV1s] using hr
  | v :: l, xs, ob, l', hr, h, hob => by
    simp only [normL] at h
    split at h <;> try contradiction
    rename_i o1 v' hv
    cases hl : normL l with
    | none => simp [hl] at h
    | some r =>
      simp [hl] at h; obtain ⟨rfl, rfl⟩ := h
      simp only [RV1s] at hr ⊢
      obtain ⟨x, ys, h1, h2, rfl⟩ := hr
      exact ⟨x, ys, norm_RV1 h1 hv (fun b hb => hob b (by simp [hb])), normL_RV1s l ys r.1 r.2 h2 hl (fun b hb => hob b (by simp [hb])), rfl⟩

theorem RV.ofρ0 {v : AV} {x : Value} (h : RV ρ0 v x) (ρ : Env) : RV ρ v x := h.mono (fun k b hb => by simp [ρ0] at hb)

section
variable {P : Program}

/-- The call comes to 'v', and writes nothing of what was there. -/
def Pure (P : Program) (f : Nat) (args : List AV) (v : AV) : Prop :=
  ∀ (xs : List Value) (w : World), RV1s ρ0 args xs → CallOK P f xs.toArray w fun x w' => RV ρ0 v x ∧ Below w.heap.size w w'

theorem CallOK.mono {f : Nat} {xs : Array Value} {w : World} {R R' : Value → World → Prop} (h : CallOK P f xs w R) (hr : ∀ x w', R x w' → R' x w') : CallOK P f xs w R' := by
  rcases h with ⟨x, h1, h2⟩ | ⟨h1, h2⟩
  · exact .inl ⟨x, h1, hr x w h2⟩
  · exact .inr ⟨h1, h2.mono fun e w' ⟨x, he, hx⟩ => ⟨x, he, hr x w' hx⟩⟩

theorem Pure.mono {f : Nat} {args : List AV} {v v' : AV} (h : Pure P f args v) (hv : ∀ x, RV ρ0 v x → RV ρ0 v' x) : Pure P f args v' :=
  fun xs w hx => (h xs w hx).mono fun x _ ⟨h1, h2⟩ => ⟨hv x h1, h2⟩

/-- A contract out of its law: 'g' of arguments without places. -/
def Ctr.of (f : Nat) (g : List AV → Option (List Bool × AV)) (ok : ∀ args ob v, g args = some (ob, v) → (∀ b ∈ ob, b = true) → Pure P f args v) : Ctr P where
  f := f
  g := fun args _ => match normL args with
    | some (o1, args') => (g args').map fun r => { v := r.2, ob := o1 ++ r.1 }
    | none => none
  loc := by intro args lk lk' E h _; exact h
  ok := by
    intro ρ H B W w args xs E h hob hr ha
    (try simp only at h)
    split at h <;> try contradiction
    rename_i o1 args' hn
    cases hg : g args' with
    | none => simp [hg] at h
    | some r =>
      simp [hg] at h; subst h
      have ha' := normL_RV1s args xs o1 args' ha hn (fun b hb => hob b (by simp [hb]))
      refine (ok args' r.1 r.2 hg (fun b hb => hob b (by simp [hb])) xs w ha').mono ?_
      rintro x w' ⟨h1, h2⟩
      exact ⟨ρ, Env.le.refl ρ, h1.ofρ0 ρ, hr.later h2⟩

/-- Out of a symbolic run. -/
theorem Pure.of_exec (hm : P.follows .mixedOrders = true) (X : EnvX P) (n f : Nat) (args : List AV) (ob : List Bool) (v v' : AV) (o1 : List Bool) (h : (callX X (exec X n) f args [] 0).map (fun r => (r.1, r.2.1)) = some (ob, v)) (hob : ∀ b ∈ ob, b = true)
    (hn : norm v = some (o1, v')) (ho1 : ∀ b ∈ o1, b = true) : Pure P f args v' := by
  intro xs w hx
  cases hc : callX X (exec X n) f args [] 0 with
  | none => simp [hc] at h
  | some r =>
    obtain ⟨ob', u, H', nk'⟩ := r
    simp [hc] at h; obtain ⟨rfl, rfl⟩ := h
    refine (Calls.of_exec hm X n f 0 args [] H' _ _ nk' hc hob (Rep.start w) hx).mono ?_
    rintro x w' ⟨ρ', _, h2, h3⟩
    have hnt : u.noTup = true := by cases u <;> first | rfl | simp [norm] at hn
    exact ⟨RV_of_RV1 (norm_RV1 (RV1_of_RV h2 hnt) hn ho1), h3.below.below⟩

theorem Pure.of_exec_tup (hm : P.follows .mixedOrders = true) (X : EnvX P) (n f : Nat) (args : List AV) (ob : List Bool) (l l' : List AV) (o1 : List Bool) (h : (callX X (exec X n) f args [] 0).map (fun r => (r.1, r.2.1)) = some (ob, .tup l)) (hob : ∀ b ∈ ob, b = true)
    (hn : normL l = some (o1, l')) (ho1 : ∀ b ∈ o1, b = true) : Pure P f args (.tup l') := by
  intro xs w hx
  cases hc : callX X (exec X n) f args [] 0 with
  | none => simp [hc] at h
  | some r =>
    obtain ⟨ob', u, H', nk'⟩ := r
    simp [hc] at h; obtain ⟨rfl, rfl⟩ := h
    refine (Calls.of_exec hm X n f 0 args [] H' _ _ nk' hc hob (Rep.start w) hx).mono ?_
    rintro x w' ⟨ρ', _, h2, h3⟩
    refine ⟨?_, h3.below.below⟩
    simp only [RV] at h2 ⊢
    obtain ⟨ys, h4, rfl⟩ := h2
    exact ⟨ys, normL_RV1s l ys o1 l' h4 hn ho1, rfl⟩

/-! ### bits.Add64, bits.Sub64 -/
def m64 : Nat := 18446744073709551616
def addS (x y c : Int) : Int := (((x.toNat + y.toNat + c.toNat) % 18446744073709551616 : Nat) : Int)
def addC (x y c : Int) : Int := (((x.toNat + y.toNat + c.toNat) / 18446744073709551616 : Nat) : Int)
def subS (x y b : Int) : Int := (((x.toNat + 18446744073709551616 - y.toNat - b.toNat) % 18446744073709551616 : Nat) : Int)
def subB (x y b : Int) : Int := ((if x.toNat < y.toNat + b.toNat then 1 else 0 : Nat) : Int)

def add64Entry' : Array Value → Sem Value := fun args => do
  let (x, y, c) ← Extern.MathBitsCarry.three "Add64" args
  pure (Extern.MathBitsCarry.pair ((x + y + c) % Extern.MathBitsCarry.m64) ((x + y + c) / Extern.MathBitsCarry.m64))
def sub64Entry' : Array Value → Sem Value := fun args => do
  let (x, y, b) ← Extern.MathBitsCarry.three "Sub64" args
  pure (Extern.MathBitsCarry.pair ((x + Extern.MathBitsCarry.m64 - y - b) % Extern.MathBitsCarry.m64) (if x < y + b then 1 else 0))

theorem run_three (nm : String) (x y c : Int) (hc : c.toNat ≤ 1) (w : World) : (Extern.MathBitsCarry.three nm #[.int .u64 x, .int .u64 y, .int .u64 c]).run P w = .ok (x.toNat, y.toNat, c.toNat) w := by
  cases c with
  | ofNat k =>
    have : k = 0 ∨ k = 1 := by have : (Int.ofNat k).toNat = k := rfl
                               omega
    rcases this with rfl | rfl <;> rfl
  | negSucc k => rfl

def carryG (s c : Int → Int → Int → Int) : List AV → Option (List Bool × AV)
  | [.int .u64 x, .int .u64 y, .int .u64 z] => some ([Nat.ble z.toNat 1], .tup [.int .u64 (s x y z), .int .u64 (c x y z)])
  | _ => none

theorem carryG_inv {s c : Int → Int → Int → Int} {args : List AV} {ob : List Bool} {v : AV} (h : carryG s c args = some (ob, v)) : ∃ x y z, args = [.int .u64 x, .int .u64 y, .int .u64 z] ∧ ob = [Nat.ble z.toNat 1] ∧ v = .tup [.int .u64 (s x y z), .int .u64 (c x y z)] := by
  unfold carryG at h
  split at h
  · simp at h; exact ⟨_, _, _, rfl, h.1.symm, h.2.symm⟩
  · contradiction

theorem RV1s_3 {ρ : Env} {k : IntKind} {x y z : Int} {xs : List Value} (h : RV1s ρ [.int k x, .int k y, .int k z] xs) : xs = [.int k x, .int k y, .int k z] := by
  simp only [RV1s, RV1, RC] at h
  obtain ⟨a, _, h1, ⟨b, _, h2, ⟨c, _, h3, rfl, rfl⟩, rfl⟩, rfl⟩ := h
  simp at h1 h2 h3
  subst h1 h2 h3
  rfl

def ctrAdd64 (f : Nat) {fn : Func} (hf : P.funcs[f]? = some fn) (hname : (fn.name == "runtime.NumGoroutine") = false) (hb : fn.body.isNone = true) (hn : Extern.findNext fn = none) (he : Extern.find fn = some add64Entry') : Ctr P :=
  Ctr.of f (carryG addS addC) (by
    intro args ob v h hob xs w hx
    obtain ⟨x, y, z, rfl, rfl, rfl⟩ := carryG_inv h
    have hz := Nat.le_of_ble_eq_true (hob (Nat.ble z.toNat 1) (by simp))
    rw [RV1s_3 hx]
    refine .inl ⟨.tuple #[.int .u64 (addS x y z), .int .u64 (addC x y z)], ?_, by simp only [RV, RV1s, RV1, RC]; exact ⟨_, ⟨_, _, rfl, ⟨_, _, rfl, rfl, rfl⟩, rfl⟩, rfl⟩, Below.refl _ _⟩
    rw [run_callFunc_extern hf hname hb hn he]
    simp only [add64Entry', Sem.run_bind, run_three _ x y z hz, Result.andThen_ok, Sem.run_pure, Extern.MathBitsCarry.pair, Extern.MathBitsCarry.m64]
    rfl)

def ctrSub64 (f : Nat) {fn : Func} (hf : P.funcs[f]? = some fn) (hname : (fn.name == "runtime.NumGoroutine") = false) (hb : fn.body.isNone = true) (hn : Extern.findNext fn = none) (he : Extern.find fn = some sub64Entry') : Ctr P :=
  Ctr.of f (carryG subS subB) (by
    intro args ob v h hob xs w hx
    obtain ⟨x, y, z, rfl, rfl, rfl⟩ := carryG_inv h
    have hz := Nat.le_of_ble_eq_true (hob (Nat.ble z.toNat 1) (by simp))
    rw [RV1s_3 hx]
    refine .inl ⟨.tuple #[.int .u64 (subS x y z), .int .u64 (subB x y z)], ?_, by simp only [RV, RV1s, RV1, RC]; exact ⟨_, ⟨_, _, rfl, ⟨_, _, rfl, rfl, rfl⟩, rfl⟩, rfl⟩, Below.refl _ _⟩
    rw [run_callFunc_extern hf hname hb hn he]
    simp only [sub64Entry', Sem.run_bind, run_three _ x y z hz, Result.andThen_ok, Sem.run_pure, Extern.MathBitsCarry.pair, Extern.MathBitsCarry.m64]
    rfl)

theorem callFunc_enter {f : Nat} {fn : Func} {body : Code} (hf : P.funcs[f]? = some fn) (hname : (fn.name == "runtime.NumGoroutine") = false) (hb : fn.body = some body) (xs : Array Value) (w : World) : (callFunc f xs).run P w = .ok (.enter f xs) w := by
  have h1 : fn.name ≠ "runtime.NumGoroutine" := by simpa using hname
  simp [callFunc, hf, h1, hb]

def FI.of (f : Nat) (fn : Func) (body : Code) (hf : P.funcs[f]? = some fn) (hname : (fn.name == "runtime.NumGoroutine") = false) (hb : fn.body = some body) : FI P := ⟨f, fn, body, hf, hb, callFunc_enter hf hname hb⟩
end
end Go.Proofs.Ytglcjmnkhmdlhaa

/- Loops of a symbolic run: what is forgotten from round to round. -/
namespace Go.Proofs.Ytglcjmnkhmdlhaa
open Go Go.RowKit

def pathEq : Path → Path → Bool
  | [], [] => true
  | (a, b, c) :: p, (a', b', c') :: q => Nat.beq a a' && Nat.beq b b' && Nat.beq c c' && pathEq p q
  | _, _ => false
theorem pathEq_eq : ∀ (p q : Path), pathEq p q = true → p = q
  | [], [], _ => rfl
  | [], _ :: _, h => by simp [pathEq] at h
  | _ :: _, [], h => by simp [pathEq] at h
  | (a, b, c) :: p, (a', b', c') :: q, h => by
    simp only [pathEq, Bool.and_eq_true] at h
    obtain ⟨⟨⟨h1, h2⟩, h3⟩, h4⟩ := h
    rw [Nat.eq_of_beq_eq_true h1, Nat.eq_of_beq_eq_true h2, Nat.eq_of_beq_eq_true h3, pathEq_eq p q h4]

mutual
/-- Two values are one, if the tests that are noted down hold. -/
def eqv : AV → AV → Option (List Bool)
  | .any, .any => some []
  | .undef, .undef => some []
  | .nilp, .nilp => some []
  | .nilsl, .nilsl => some []
  | .nilfn, .nilfn => some []
  | .ptr k p, .ptr k' p' => match Nat.beq k k' && pathEq p p' with
    | true => some []
    | false => none
  | .sl k p n c, .sl k' p' n' c' => match Nat.beq k k' && pathEq p p' with
    | true => some [Nat.beq n n' && Nat.beq c c']
    | false => none
  | .fn f l, .fn f' l' => match Nat.beq f f' with
    | true => eqvL l l'
    | false => none
  | .agg l, .agg l' => eqvL l l'
  | .tup l, .tup l' => eqvL l l'
  | v, v' => sameAV v v'
def eqvL : List AV → List AV → Option (List Bool)
  | [], [] => some []
  | v :: l, v' :: l' => match eqv v v' with
    | some o1 => (eqvL l l').map (o1 ++ ·)
    | none => none
  | _, _ => none
end

mutual
theorem eqv_eq : ∀ (v v' : AV) (ob : List Bool), eqv v v' = some ob → (∀ b ∈ ob, b = true) → v = v'
  | v, v', ob, h, hob => by
    unfold eqv at h
    split at h
    · rfl
    · rfl
    · rfl
    · rfl
    · rfl
    · split at h <;> try contradiction
      rename_i hb
      simp only [Bool.and_eq_true] at hb
      rw [Nat.eq_of_beq_eq_true hb.1, pathEq_eq _ _ hb.2]
    · split at h <;> try contradiction
      rename_i hb
      simp only [Bool.and_eq_true] at hb
      simp at h; subst h
      have := hob _ (List.mem_singleton.2 rfl)
      simp only [Bool.and_eq_true] at this
      rw [Nat.eq_of_beq_eq_true hb.1, pathEq_eq _ _ hb.2, Nat.eq_of_beq_eq_true this.1, Nat.eq_of_beq_eq_true this.2]
    · split at h <;> try contradiction
      rename_i f l f' l' _ hb
      rw [Nat.eq_of_beq_eq_true hb, eqvL_eq l l' ob h hob]
    · rename_i l l'
      rw [eqvL_eq l l' ob h hob]
    · rename_i l l'
      rw [eqvL_eq l l' ob h hob]
    · exact sameAV_eq h hob
theorem eqvL_eq : ∀ (l l' : List AV) (ob : List Bool), eqvL l l' = some ob → (∀ b ∈ ob, b = true) → l = l'
  | [], [], ob, _, _ => rfl
  | [], _ :: _, ob, h, _ => by simp [eqvL] at h
  | _ :: _, [], ob, h, _ => by simp [eqvL] at h
  | v :: l, v' :: l', ob, h, hob => by
    simp only [eqvL] at h
    split at h <;> try contradiction
    rename_i o1 h1
    cases hr : eqvL l l' with
    | none => simp [hr] at h
    | some o2 =>
      simp [hr] at h; subst h
      rw [eqv_eq v v' o1 h1 (fun b hb => hob b (by simp [hb])), eqvL_eq l l' o2 hr (fun b hb => hob b (by simp [hb]))]
end

/-- The slots 'ss' fit the pattern: what is not 'any' is the same. -/
def fitS : List AV → List AV → Option (List Bool)
  | [], [] => some []
  | .any :: l, _ :: l' => fitS l l'
  | v :: l, v' :: l' => match eqv v v' with
    | some o1 => (fitS l l').map (o1 ++ ·)
    | none => none
  | _, _ => none

theorem fitS_sound {ρ : Env} : ∀ (l l' : List AV) (ob : List Bool), fitS l l' = some ob → (∀ b ∈ ob, b = true) → l.length = l'.length ∧ ∀ i x, RV ρ (sget l' i) x → RV ρ (sget l i) x
  | [], [], ob, _, _ => ⟨rfl, fun _ _ h => h⟩
  | [], _ :: _, ob, h, _ => by simp [fitS] at h
  | v :: l, [], ob, h, _ => by cases v <;> simp [fitS] at h
  | v :: l, v' :: l', ob, h, hob => by
    by_cases hv : v = .any
    · subst hv
      simp only [fitS] at h
      obtain ⟨h1, h2⟩ := fitS_sound (ρ := ρ) l l' ob h hob
      refine ⟨by simp [h1], fun i x hx => ?_⟩
      cases i with
      | zero => simp [sget, RV, RV1]
      | succ i => exact h2 i x hx
    · have h : (match eqv v v' with
        | some o1 => (fitS l l').map (o1 ++ ·)
        | none => none) = some ob := by
        cases v <;> first | exact absurd rfl hv | simpa only [fitS] using h
      split at h <;> try contradiction
      rename_i o1 he
      cases hr : fitS l l' with
      | none => simp [hr] at h
      | some o2 =>
        simp [hr] at h; subst h
        have e1 := eqv_eq v v' o1 he (fun b hb => hob b (by simp [hb]))
        subst e1
        obtain ⟨h1, h2⟩ := fitS_sound (ρ := ρ) l l' o2 hr (fun b hb => hob b (by simp [hb]))
        refine ⟨by simp [h1], fun i x hx => ?_⟩
        cases i with
        | zero => exact hx
        | succ i => exact h2 i x hx

def fitH : Heap → Heap → Option (List Bool)
  | [], [] => some []
  | none :: H, none :: H' => fitH H H'
  | some b :: H, some b' :: H' => match Nat.beq b.t b'.t && (b.own == b'.own), eqv b.v b'.v with
    | true, some o1 => (fitH H H').map (o1 ++ ·)
    | _, _ => none
  | _, _ => none

theorem fitH_eq : ∀ (H H' : Heap) (ob : List Bool), fitH H H' = some ob → (∀ b ∈ ob, b = true) → H = H'
  | [], [], ob, _, _ => rfl
  | [], _ :: _, ob, h, _ => by simp [fitH] at h
  | x :: _, [], ob, h, _ => by cases x <;> simp [fitH] at h
  | none :: H, none :: H', ob, h, hob => by simp only [fitH] at h; rw [fitH_eq H H' ob h hob]
  | none :: H, some b :: H', ob, h, _ => by simp [fitH] at h
  | some b :: H, none :: H', ob, h, _ => by simp [fitH] at h
  | some b :: H, some b' :: H', ob, h, hob => by
    simp only [fitH] at h
    split at h <;> try contradiction
    rename_i o1 h1 h2
    cases hr : fitH H H' with
    | none => simp [hr] at h
    | some o2 =>
      simp [hr] at h; subst h
      simp only [Bool.and_eq_true] at h1
      have e1 := Nat.eq_of_beq_eq_true h1.1
      have e2 := eq_of_beq h1.2
      have e3 := eqv_eq b.v b'.v o1 h2 (fun b hb => hob b (by simp [hb]))
      have e4 := fitH_eq H H' o2 hr (fun b hb => hob b (by simp [hb]))
      rw [e4]
      congr 2
      cases b; cases b'; simp_all

/-- 's' fits the pattern 'p'. -/
def fitSt (p s : St) : Option (List Bool) :=
  match fitS p.ss s.ss, fitH p.H s.H with
  | some o1, some o2 => some (o1 ++ o2)
  | _, _ => none

theorem fitSt_sound {p s : St} {ob : List Bool} (h : fitSt p s = some ob) (hob : ∀ b ∈ ob, b = true) {ρ : Env} {B : Fr} {W : WD} {w : World} {a : Act} (hst : StS ρ s B W a w) : StS ρ p B W a w := by
  unfold fitSt at h
  split at h <;> try contradiction
  rename_i o1 o2 h1 h2
  simp at h; subst h
  have e := fitH_eq _ _ o2 h2 (fun b hb => hob b (by simp [hb]))
  obtain ⟨hl, hs⟩ := fitS_sound (ρ := ρ) _ _ o1 h1 (fun b hb => hob b (by simp [hb]))
  refine ⟨fun i => hs i _ (hst.sl i), ?_, hst.df, ?_⟩
  · show p.ss.length = _
    rw [hl]; exact hst.len
  · show Rep ρ p.H B W.w w
    rw [e]; exact hst.rep

/-- Slots that are not in the list are forgotten, and blocks from 'm' on. -/
def keepS (keep : List Nat) : Nat → List AV → List AV
  | _, [] => []
  | i, v :: l => (match keep.any (Nat.beq i) with
    | true => v
    | false => .any) :: keepS keep (i + 1) l

def takeH : Nat → Heap → Heap
  | 0, _ => []
  | _ + 1, [] => []
  | m + 1, x :: H => x :: takeH m H

def forget (keep : List Nat) (m : Nat) (s : St) : St := ⟨keepS keep 0 s.ss, takeH m s.H, m⟩

mutual
def below (m : Nat) : AV → Bool
  | .ptr k _ => Nat.ble (k + 1) m
  | .sl k _ _ _ => Nat.ble (k + 1) m
  | .fn _ l => belowL m l
  | .agg l => belowL m l
  | .tup l => belowL m l
  | _ => true
def belowL (m : Nat) : List AV → Bool
  | [] => true
  | v :: l => below m v && belowL m l
end

def belowH (m : Nat) : Heap → Bool
  | [] => true
  | none :: H => belowH m H
  | some b :: H => below m b.v && belowH m H

def belowSt (m : Nat) (s : St) : Bool := belowL m s.ss && belowH m s.H

def cutE (m : Nat) (ρ : Env) : Env := fun k => if k < m then ρ k else none

mutual
theorem RC.cut {ρ : Env} {m : Nat} : ∀ (v : AV) (cs : List Value), below m v = true → RC ρ v cs → RC (cutE m ρ) v cs
  | .agg l, cs, hb, h => by simp only [below] at hb; simp only [RC] at *; exact RCs.cut l cs hb h
  | .u y, cs, _, h => by simpa only [RC] using h
  | .ints k n l, cs, _, h => by simpa only [RC] using h
  | .bool b, cs, _, h => by simpa only [RC] using h
  | .int k n, cs, _, h => by simpa only [RC] using h
  | .str s, cs, _, h => by simpa only [RC] using h
  | .ptr k p, cs, hb, h => by
    simp only [below] at hb; simp only [RC] at *
    obtain ⟨b, h1, e⟩ := h
    exact ⟨b, by simp [cutE, Nat.lt_of_succ_le (Nat.le_of_ble_eq_true hb), h1], e⟩
  | .nilp, cs, _, h => by simpa only [RC] using h
  | .sl k p n c, cs, hb, h => by
    simp only [below] at hb; simp only [RC] at *
    obtain ⟨b, h1, e⟩ := h
    exact ⟨b, by simp [cutE, Nat.lt_of_succ_le (Nat.le_of_ble_eq_true hb), h1], e⟩
  | .nilsl, cs, _, h => by simpa only [RC] using h
  | .fn f l, cs, hb, h => by
    simp only [below] at hb; simp only [RC] at *
    obtain ⟨xs, h1, e⟩ := h
    exact ⟨xs, RCs.cut l xs hb h1, e⟩
  | .nilfn, cs, _, h => by simpa only [RC] using h
  | .raw v, cs, _, h => by simpa only [RC] using h
  | .any, cs, _, h => by simpa only [RC] using h
  | .undef, cs, _, h => by simp only [RC] at h
  | .tup l, cs, _, h => by simp only [RC] at h
theorem RCs.cut {ρ : Env} {m : Nat} : ∀ (l : List AV) (cs : List Value), belowL m l = true → RCs ρ l cs → RCs (cutE m ρ) l cs
  | [], cs, _, h => by simpa only [RCs] using h
  | v :: l, cs, hb, h => by
    simp only [belowL, Bool.and_eq_true] at hb
    simp only [RCs] at *
    obtain ⟨c1, c2, h1, h2, e⟩ := h
    exact ⟨c1, c2, RC.cut v c1 hb.1 h1, RCs.cut l c2 hb.2 h2, e⟩
end

theorem RV1.cut {ρ : Env} {m : Nat} {v : AV} {x : Value} (hb : below m v = true) (h : RV1 ρ v x) : RV1 (cutE m ρ) v x := by
  cases v <;> simp only [RV1] at * <;> first | exact h | exact RC.cut _ _ hb h | (simp only [below] at hb; obtain ⟨cs, h1, e⟩ := h; exact ⟨cs, RCs.cut _ _ hb h1, e⟩)

theorem RV1s.cut {ρ : Env} {m : Nat} : ∀ (l : List AV) (xs : List Value), belowL m l = true → RV1s ρ l xs → RV1s (cutE m ρ) l xs
  | [], xs, _, h => by simpa only [RV1s] using h
  | v :: l, xs, hb, h => by
    simp only [belowL, Bool.and_eq_true] at hb
    simp only [RV1s] at *
    obtain ⟨x, ys, h1, h2, e⟩ := h
    exact ⟨x, ys, h1.cut hb.1, RV1s.cut l ys hb.2 h2, e⟩

theorem RV.cut {ρ : Env} {m : Nat} {v : AV} {x : Value} (hb : below m v = true) (h : RV ρ v x) : RV (cutE m ρ) v x := by
  cases v <;> simp only [RV] at * <;> first | exact h.cut hb | (simp only [below] at hb; obtain ⟨xs, h1, e⟩ := h; exact ⟨xs, RV1s.cut _ _ hb h1, e⟩)

theorem sget_keepS (keep : List Nat) : ∀ (l : List AV) (i j : Nat), sget (keepS keep i l) j = .any ∨ sget (keepS keep i l) j = sget l j
  | [], i, j => .inr rfl
  | v :: l, i, 0 => by
    simp only [keepS, sget]
    split
    · exact .inr rfl
    · exact .inl rfl
  | v :: l, i, j + 1 => by simp only [keepS, sget]; exact sget_keepS keep l (i + 1) j

theorem keepS_length (keep : List Nat) : ∀ (l : List AV) (i : Nat), (keepS keep i l).length = l.length
  | [], _ => rfl
  | v :: l, i => by simp [keepS, keepS_length keep l (i + 1)]

theorem hget_takeH : ∀ (m : Nat) (H : Heap) (k : Nat), hget (takeH m H) k = if k < m then hget H k else none
  | 0, H, k => by simp [takeH, hget_nil]
  | m + 1, [], k => by simp [takeH, hget_nil]
  | m + 1, x :: H, 0 => by simp [takeH, hget]
  | m + 1, x :: H, k + 1 => by simp only [takeH, hget]; rw [hget_takeH m H k]; simp

theorem belowL_sget {m : Nat} : ∀ (l : List AV) (i : Nat), belowL m l = true → below m (sget l i) = true
  | [], i, _ => by simp [sget, below]
  | v :: l, 0, h => by simp only [belowL, Bool.and_eq_true] at h; exact h.1
  | v :: l, i + 1, h => by simp only [belowL, Bool.and_eq_true] at h; exact belowL_sget l i h.2

theorem belowH_hget {m : Nat} : ∀ (H : Heap) (k : Nat) (b : Blk), belowH m H = true → hget H k = some b → below m b.v = true
  | [], k, b, _, h => by simp [hget_nil] at h
  | none :: H, 0, b, _, h => by simp [hget] at h
  | some c :: H, 0, b, hb, h => by simp only [belowH, Bool.and_eq_true] at hb; simp [hget] at h; subst h; exact hb.1
  | none :: H, k + 1, b, hb, h => by simp only [belowH] at hb; exact belowH_hget H k b hb h
  | some c :: H, k + 1, b, hb, h => by simp only [belowH, Bool.and_eq_true] at hb; exact belowH_hget H k b hb.2 h

theorem forget_sound {keep : List Nat} {m : Nat} {s : St} (hb : belowSt m (forget keep m s) = true) {ρ : Env} {B : Fr} {W : WD} {w : World} {a : Act} (hst : StS ρ s B W a w) : StS (cutE m ρ) (forget keep m s) B W a w := by
  simp only [belowSt, Bool.and_eq_true] at hb
  refine ⟨fun i => ?_, ?_, hst.df, ?_⟩
  · have h1 := belowL_sget _ i hb.1
    have h2 : RV ρ (sget (forget keep m s).ss i) (a.tmps.getD i undef) := by
      rcases sget_keepS keep s.ss 0 i with e | e
      · simp only [forget, e, RV, RV1]
      · simp only [forget, e]; exact hst.sl i
    exact h2.cut h1
  · show (keepS keep 0 s.ss).length = _
    rw [keepS_length]; exact hst.len
  · refine ⟨hst.rep.below, hst.rep.bnd, ?_, ?_, ?_⟩
    · intro k x hk
      have hx := belowH_hget _ k x hb.2 hk
      have hk' : hget (takeH m s.H) k = some x := hk
      rw [hget_takeH] at hk'
      split at hk' <;> try contradiction
      rename_i hlt
      obtain ⟨b, cs, mk, h1, h2, h3, h4⟩ := hst.rep.blk k x hk'
      exact ⟨b, cs, mk, by simp [cutE, hlt, h1], h2, RC.cut _ _ hx h3, h4⟩
    · intro k k' b h1 h2
      simp only [cutE] at h1 h2
      split at h1 <;> split at h2 <;> try contradiction
      exact hst.rep.inj k k' b h1 h2
    · intro k hk
      have hk' : hget (takeH m s.H) k = none := hk
      rw [hget_takeH] at hk'
      simp only [cutE]
      split
      · rename_i hlt; rw [if_pos hlt] at hk'; exact hst.rep.dom k hk'
      · rfl

section
variable {P : Program}

theorem FI.ext' {x y : FI P} (h : x.f = y.f) : x = y := by
  cases x with
  | mk f fn body hf hb hn =>
    cases y with
    | mk f' fn' body' hf' hb' hn' =>
      simp only at h
      subst h
      have e1 : fn = fn' := by rw [hf] at hf'; simpa using hf'
      subst e1
      have e2 : body = body' := by rw [hb] at hb'; simpa using hb'
      subst e2
      rfl

def loopAt (gi : FI P) (path : List Nat) : Code :=
  match subC gi.body path with
  | some (.loop b) => b
  | _ => .skip

/-- A loop's rounds, one by one, then the one that leaves it. -/
theorem rounds_ok (hm : P.follows .mixedOrders = true) (X : EnvX P) (n : Nat) (gi : FI P) (path : List Nat) (st : Nat → St) (keep : List Nat) (m N : Nat) (e : Ex) (sf : St)
    (hsub : subC gi.body path = some (.loop (loopAt gi path)))
    (hstep : ∀ i, i < N → ∃ ob last s1, exec X n gi (0 :: path) 0 (loopAt gi path) (st i) = some (ob, .normal, last, s1) ∧ (∀ b ∈ ob, b = true) ∧ belowSt m (st (i + 1)) = true ∧ forget keep m s1 = st (i + 1))
    (hend : ∃ ob last, exec X n gi (0 :: path) 0 (loopAt gi path) (st N) = some (ob, e, last, sf) ∧ (∀ b ∈ ob, b = true)) (hne : e ≠ .normal) (h0 : (st 0).H.length ≤ m) : CodeOK P (.loop (loopAt gi path)) (st 0) e sf := by
  have hsub2 : subC gi.body (0 :: path) = some (loopAt gi path) := by simp [subC, hsub, child]
  have hlen : ∀ i, i ≤ N → ∀ k, m ≤ k → hget (st i).H k = none := by
    intro i hi k hk
    cases i with
    | zero =>
      have : ∀ (H : Heap) (k : Nat), H.length ≤ k → hget H k = none := by
        intro H
        induction H with
        | nil => intro k _; exact hget_nil k
        | cons x H ih => intro k h; cases k with
          | zero => simp at h
          | succ k => exact ih k (by simpa using h)
      exact this _ _ (by omega)
    | succ i =>
      obtain ⟨ob, last, s1, _, _, _, h4⟩ := hstep i (by omega)
      rw [← h4]
      show hget (takeH m s1.H) k = none
      rw [hget_takeH, if_neg (by omega)]
  intro ρ B W a w Q hst hq
  refine wp_loop_rounds (N + 1) ?_
  have key : ∀ d i (ρ : Env) (a : Act) (w : World), i + d = N → StS ρ (st i) B W a w → (∀ ρ' a' w', Env.le ρ ρ' → StS ρ' sf B W a' w' → Q e.to a' w') → Code.rounds P (loopAt gi path) Q (d + 1) a w := by
    intro d
    induction d with
    | zero =>
      intro i ρ a w hi hst hq
      have : i = N := by omega
      subst this
      obtain ⟨ob, last, h1, h2⟩ := hend
      rw [rounds_succ]
      refine exec_sound hm X n gi _ _ _ _ _ _ _ _ hsub2 h1 h2 ρ B W a w _ hst fun ρ' a' w' hle hst' => ?_
      cases e with
      | normal => exact absurd rfl hne
      | exit id => exact hq ρ' a' w' hle hst'
      | ret => exact hq ρ' a' w' hle hst'
    | succ d ih =>
      intro i ρ a w hi hst hq
      obtain ⟨ob, last, s1, h1, h2, h3, h4⟩ := hstep i (by omega)
      rw [rounds_succ]
      refine exec_sound hm X n gi _ _ _ _ _ _ _ _ hsub2 h1 h2 ρ B W a w _ hst fun ρ' a' w' hle hst' => ?_
      have hst2 := forget_sound (keep := keep) (m := m) (by rw [h4]; exact h3) hst'
      rw [h4] at hst2
      refine ih (i + 1) (cutE m ρ') a' w' (by omega) hst2 fun ρ2 a2 w2 hle2 hst3 => hq ρ2 a2 w2 ?_ hst3
      intro k b hk
      refine hle2 k b ?_
      have hkm : k < m := by
        rcases Nat.lt_or_ge k m with h | h
        · exact h
        · have hd : hget (st i).H k = none := hlen i (by omega) k h
          have hr : Rep ρ (st i).H B W.w w := hst.rep
          rw [hr.dom k hd] at hk
          simp at hk
      simp only [cutE, hkm, if_true]
      exact hle k b hk
  exact key N 0 ρ a w (by omega) hst hq

/-- A loop's law out of its rounds. -/
def LC.of (gi : FI P) (path : List Nat) (s0 : St) (e : Ex) (sf : St) (hsub : subC gi.body path = some (.loop (loopAt gi path))) (ok : CodeOK P (.loop (loopAt gi path)) s0 e sf) : LC P where
  f := gi.f
  path := path
  g := fun s => (fitSt s0 s).map fun ob => (ob, e, sf)
  ok := by
    intro fi body hf hs s ob e' s' h hob
    have hfi := FI.ext' hf
    subst hfi
    rw [hsub] at hs
    simp at hs
    cases hft : fitSt s0 s with
    | none => simp [hft] at h
    | some o =>
      simp [hft] at h; obtain ⟨rfl, rfl, rfl⟩ := h
      rw [← hs]
      intro ρ B W a w Q hst hq
      exact ok ρ B W a w Q (fitSt_sound hft hob hst) hq
end
end Go.Proofs.Ytglcjmnkhmdlhaa

/- Numbers of 256 bits and their four parts: plain arithmetic. -/
namespace Go.Proofs.Ytglcjmnkhmdlhaa
open Go Go.RowKit

theorem limb_lo (x : BitVec 256) (i : Nat) : 0 ≤ limb x i := by unfold limb; exact Int.natCast_nonneg _
theorem limb_hi (x : BitVec 256) (i : Nat) : limb x i < 18446744073709551616 := by
  unfold limb
  have : x.toNat / 2 ^ (64 * i) % 2 ^ 64 < 2 ^ 64 := Nat.mod_lt _ (by decide)
  omega

theorem limb0 (x : BitVec 256) : limb x 0 = ((x.toNat % 18446744073709551616 : Nat) : Int) := by simp [limb]
theorem limb1 (x : BitVec 256) : limb x 1 = ((x.toNat / 18446744073709551616 % 18446744073709551616 : Nat) : Int) := by simp [limb]
theorem limb2 (x : BitVec 256) : limb x 2 = ((x.toNat / 340282366920938463463374607431768211456 % 18446744073709551616 : Nat) : Int) := by simp [limb]
theorem limb3 (x : BitVec 256) : limb x 3 = ((x.toNat / 6277101735386680763835789423207666416102355444464034512896 % 18446744073709551616 : Nat) : Int) := by simp [limb]

/-- The parts of a number, as natural numbers. -/
theorem limbs_nat (x : BitVec 256) : ∃ a b c d : Nat, a < 18446744073709551616 ∧ b < 18446744073709551616 ∧ c < 18446744073709551616 ∧ d < 18446744073709551616 ∧ limb x 0 = a ∧ limb x 1 = b ∧ limb x 2 = c ∧ limb x 3 = d ∧
    x.toNat = a + 18446744073709551616 * (b + 18446744073709551616 * (c + 18446744073709551616 * d)) := by
  have hx := x.isLt
  refine ⟨_, _, _, _, ?_, ?_, ?_, ?_, limb0 x, limb1 x, limb2 x, limb3 x, ?_⟩ <;> omega

theorem limb_of {x : BitVec 256} {a b c d : Nat} (ha : a < 18446744073709551616) (hb : b < 18446744073709551616) (hc : c < 18446744073709551616) (hd : d < 18446744073709551616)
    (h : x.toNat = a + 18446744073709551616 * (b + 18446744073709551616 * (c + 18446744073709551616 * d))) : limb x 0 = a ∧ limb x 1 = b ∧ limb x 2 = c ∧ limb x 3 = d := by
  rw [limb0, limb1, limb2, limb3, h]
  refine ⟨?_, ?_, ?_, ?_⟩ <;> omega

/-- Parts that make a number. -/
theorem Same.u4 {l : List Int} {y : BitVec 256} (h : l = [limb y 0, limb y 1, limb y 2, limb y 3]) {x : Value} (hx : RV ρ0 (.ints .u64 4 l) x) : RV ρ0 (.u y) x := by
  simp only [RV, RV1] at hx ⊢
  subst h
  exact hx.2

/-- Four parts, as one number. -/
def nat4 (a b c d : Nat) : Nat := a + 18446744073709551616 * (b + 18446744073709551616 * (c + 18446744073709551616 * d))

theorem nat4_lt {a b c d : Nat} (ha : a < 18446744073709551616) (hb : b < 18446744073709551616) (hc : c < 18446744073709551616) (hd : d < 18446744073709551616) : nat4 a b c d < 2 ^ 256 := by
  unfold nat4; omega

theorem nat4_add {a0 a1 a2 a3 b0 b1 b2 b3 s0 s1 s2 s3 c1 c2 c3 c4 : Nat} (k0 : a0 + b0 + 0 = s0 + 18446744073709551616 * c1) (k1 : a1 + b1 + c1 = s1 + 18446744073709551616 * c2)
    (k2 : a2 + b2 + c2 = s2 + 18446744073709551616 * c3) (k3 : a3 + b3 + c3 = s3 + 18446744073709551616 * c4) : nat4 a0 a1 a2 a3 + nat4 b0 b1 b2 b3 = nat4 s0 s1 s2 s3 + 2 ^ 256 * c4 := by
  unfold nat4; omega

theorem nat4_sub {a0 a1 a2 a3 b0 b1 b2 b3 s0 s1 s2 s3 c1 c2 c3 c4 : Nat} (k0 : a0 + 18446744073709551616 * c1 = s0 + b0 + 0) (k1 : a1 + 18446744073709551616 * c2 = s1 + b1 + c1)
    (k2 : a2 + 18446744073709551616 * c3 = s2 + b2 + c2) (k3 : a3 + 18446744073709551616 * c4 = s3 + b3 + c3) : nat4 a0 a1 a2 a3 + 2 ^ 256 * c4 = nat4 s0 s1 s2 s3 + nat4 b0 b1 b2 b3 := by
  unfold nat4; omega

theorem add_step (x y c : Nat) (hx : x < 18446744073709551616) (hy : y < 18446744073709551616) (hc : c ≤ 1) :
    ∃ s d : Nat, addS x y c = s ∧ addC x y c = d ∧ s < 18446744073709551616 ∧ d ≤ 1 ∧ x + y + c = s + 18446744073709551616 * d := by
  refine ⟨_, _, rfl, rfl, ?_, ?_, ?_⟩ <;> simp only [Int.toNat_natCast] <;> omega

theorem sub_step (x y b : Nat) (hx : x < 18446744073709551616) (hy : y < 18446744073709551616) (hb : b ≤ 1) :
    ∃ s d : Nat, subS x y b = s ∧ subB x y b = d ∧ s < 18446744073709551616 ∧ d ≤ 1 ∧ x + 18446744073709551616 * d = s + y + b := by
  refine ⟨_, _, rfl, rfl, ?_, ?_, ?_⟩ <;> simp only [Int.toNat_natCast] <;> (try split) <;> omega

def ac1 (a b : BitVec 256) : Int := addC (limb a 0) (limb b 0) 0
def ac2 (a b : BitVec 256) : Int := addC (limb a 1) (limb b 1) (ac1 a b)
def ac3 (a b : BitVec 256) : Int := addC (limb a 2) (limb b 2) (ac2 a b)
def ac4 (a b : BitVec 256) : Int := addC (limb a 3) (limb b 3) (ac3 a b)
def addL (a b : BitVec 256) : List Int := [addS (limb a 0) (limb b 0) 0, addS (limb a 1) (limb b 1) (ac1 a b), addS (limb a 2) (limb b 2) (ac2 a b), addS (limb a 3) (limb b 3) (ac3 a b)]
def sb1 (a b : BitVec 256) : Int := subB (limb a 0) (limb b 0) 0
def sb2 (a b : BitVec 256) : Int := subB (limb a 1) (limb b 1) (sb1 a b)
def sb3 (a b : BitVec 256) : Int := subB (limb a 2) (limb b 2) (sb2 a b)
def sb4 (a b : BitVec 256) : Int := subB (limb a 3) (limb b 3) (sb3 a b)
def subL (a b : BitVec 256) : List Int := [subS (limb a 0) (limb b 0) 0, subS (limb a 1) (limb b 1) (sb1 a b), subS (limb a 2) (limb b 2) (sb2 a b), subS (limb a 3) (limb b 3) (sb3 a b)]

/-- Over 2^256; under 0. -/
def uover (a b : BitVec 256) : Bool := decide (2 ^ 256 ≤ a.toNat + b.toNat)
def uless (a b : BitVec 256) : Bool := decide (a.toNat < b.toNat)

theorem le_one {c : Nat} (h : c ≤ 1) : c = 0 ∨ c = 1 := by omega
theorem over_num {S c : Nat} (hc : c ≤ 1) (hS : S < 2 ^ 256) : (c : Int) = if decide (2 ^ 256 ≤ S + 2 ^ 256 * c) = true then 1 else 0 := by
  rcases le_one hc with rfl | rfl
  · rw [if_neg (by simp only [decide_eq_true_eq]; omega)]; rfl
  · rw [if_pos (by simp only [decide_eq_true_eq]; omega)]; rfl
theorem less_num {A B S c : Nat} (hc : c ≤ 1) (hS : S < 2 ^ 256) (_hA : A < 2 ^ 256) (hB : B < 2 ^ 256) (h : A + 2 ^ 256 * c = S + B) : (2 ^ 256 - B + A) % 2 ^ 256 = S ∧ (c : Int) = if decide (A < B) = true then 1 else 0 := by
  rcases le_one hc with rfl | rfl
  · refine ⟨by omega, ?_⟩
    rw [if_neg (by simp only [decide_eq_true_eq]; omega)]; rfl
  · refine ⟨by omega, ?_⟩
    rw [if_pos (by simp only [decide_eq_true_eq]; omega)]; rfl

theorem add_plain (a b : BitVec 256) : (ac1 a b).toNat ≤ 1 ∧ (ac2 a b).toNat ≤ 1 ∧ (ac3 a b).toNat ≤ 1 ∧ addL a b = [limb (a + b) 0, limb (a + b) 1, limb (a + b) 2, limb (a + b) 3] ∧
    ac4 a b = if uover a b then 1 else 0 := by
  obtain ⟨a0, a1, a2, a3, h0, h1, h2, h3, _, _, _, _, ha⟩ := limbs_nat a
  obtain ⟨b0, b1, b2, b3, g0, g1, g2, g3, _, _, _, _, hb⟩ := limbs_nat b
  obtain ⟨s0, c1, p0, q0, i0, j0, k0⟩ := add_step a0 b0 0 h0 g0 (Nat.zero_le 1)
  obtain ⟨s1, c2, p1, q1, i1, j1, k1⟩ := add_step a1 b1 c1 h1 g1 j0
  obtain ⟨s2, c3, p2, q2, i2, j2, k2⟩ := add_step a2 b2 c2 h2 g2 j1
  obtain ⟨s3, c4, p3, q3, i3, j3, k3⟩ := add_step a3 b3 c3 h3 g3 j2
  have q0 : addC (↑a0) (↑b0) 0 = c1 := q0
  have p0 : addS (↑a0) (↑b0) 0 = s0 := p0
  have hsum := nat4_add k0 k1 k2 k3
  have hlt := nat4_lt i0 i1 i2 i3
  have ha : a.toNat = nat4 a0 a1 a2 a3 := ha
  have hb : b.toNat = nat4 b0 b1 b2 b3 := hb
  clear k0 k1 k2 k3
  have hs : (a + b).toNat = nat4 s0 s1 s2 s3 := by
    rw [BitVec.toNat_add, ha, hb, hsum, Nat.add_mul_mod_self_left, Nat.mod_eq_of_lt hlt]
  obtain ⟨l0, l1, l2, l3⟩ := limb_of i0 i1 i2 i3 hs
  obtain ⟨e0, e1, e2, e3⟩ := limb_of h0 h1 h2 h3 ha
  obtain ⟨f0, f1, f2, f3⟩ := limb_of g0 g1 g2 g3 hb
  simp only [ac1, ac2, ac3, ac4, addL, e0, e1, e2, e3, f0, f1, f2, f3, q0, q1, q2, q3, p0, p1, p2, p3, l0, l1, l2, l3, Int.toNat_natCast]
  refine ⟨j0, j1, j2, trivial, ?_⟩
  unfold uover
  rw [ha, hb, hsum]
  exact over_num j3 hlt

theorem sub_plain (a b : BitVec 256) : (sb1 a b).toNat ≤ 1 ∧ (sb2 a b).toNat ≤ 1 ∧ (sb3 a b).toNat ≤ 1 ∧ subL a b = [limb (a - b) 0, limb (a - b) 1, limb (a - b) 2, limb (a - b) 3] ∧
    sb4 a b = if uless a b then 1 else 0 := by
  obtain ⟨a0, a1, a2, a3, h0, h1, h2, h3, _, _, _, _, ha⟩ := limbs_nat a
  obtain ⟨b0, b1, b2, b3, g0, g1, g2, g3, _, _, _, _, hb⟩ := limbs_nat b
  obtain ⟨s0, c1, p0, q0, i0, j0, k0⟩ := sub_step a0 b0 0 h0 g0 (Nat.zero_le 1)
  obtain ⟨s1, c2, p1, q1, i1, j1, k1⟩ := sub_step a1 b1 c1 h1 g1 j0
  obtain ⟨s2, c3, p2, q2, i2, j2, k2⟩ := sub_step a2 b2 c2 h2 g2 j1
  obtain ⟨s3, c4, p3, q3, i3, j3, k3⟩ := sub_step a3 b3 c3 h3 g3 j2
  have q0 : subB (↑a0) (↑b0) 0 = c1 := q0
  have p0 : subS (↑a0) (↑b0) 0 = s0 := p0
  have hsum := nat4_sub k0 k1 k2 k3
  have hlt := nat4_lt i0 i1 i2 i3
  have ha : a.toNat = nat4 a0 a1 a2 a3 := ha
  have hb : b.toNat = nat4 b0 b1 b2 b3 := hb
  have hal := nat4_lt h0 h1 h2 h3
  have hbl := nat4_lt g0 g1 g2 g3
  clear k0 k1 k2 k3
  obtain ⟨r1, r2⟩ := less_num j3 hlt hal hbl hsum
  have hs : (a - b).toNat = nat4 s0 s1 s2 s3 := by
    rw [BitVec.toNat_sub, ha, hb]; exact r1
  obtain ⟨l0, l1, l2, l3⟩ := limb_of i0 i1 i2 i3 hs
  obtain ⟨e0, e1, e2, e3⟩ := limb_of h0 h1 h2 h3 ha
  obtain ⟨f0, f1, f2, f3⟩ := limb_of g0 g1 g2 g3 hb
  simp only [sb1, sb2, sb3, sb4, subL, e0, e1, e2, e3, f0, f1, f2, f3, q0, q1, q2, q3, p0, p1, p2, p3, l0, l1, l2, l3, Int.toNat_natCast]
  refine ⟨j0, j1, j2, trivial, ?_⟩
  unfold uless
  rw [ha, hb]
  exact r2
end Go.Proofs.Ytglcjmnkhmdlhaa

/- Contracts: the common forms. -/
namespace Go.Proofs.Ytglcjmnkhmdlhaa
open Go Go.RowKit

section
variable {P : Program}

def SameV (v v' : AV) : Prop := v.noTup = true ∧ v'.noTup = true ∧ ∀ ρ x, RV1 ρ v x → RV1 ρ0 v' x

theorem SameV.int {k : IntKind} {n m : Int} (h : n = m) : SameV (.int k n) (.int k m) := ⟨rfl, rfl, fun ρ x hx => by subst h; simpa only [RV1, RC] using hx⟩
theorem SameV.bool {b c : Bool} (h : b = c) : SameV (.bool b) (.bool c) := ⟨rfl, rfl, fun ρ x hx => by subst h; simpa only [RV1, RC] using hx⟩
theorem SameV.str {s t : ByteArray} (h : s = t) : SameV (.str s) (.str t) := ⟨rfl, rfl, fun ρ x hx => by subst h; simpa only [RV1, RC] using hx⟩
theorem SameV.u {x y : BitVec 256} (h : x = y) : SameV (.u x) (.u y) := ⟨rfl, rfl, fun ρ v hx => by subst h; simpa only [RV1] using hx⟩
theorem SameV.u4 {l : List Int} {y : BitVec 256} (h : l = [limb y 0, limb y 1, limb y 2, limb y 3]) : SameV (.ints .u64 4 l) (.u y) :=
  ⟨rfl, rfl, fun ρ x hx => by simp only [RV1] at hx ⊢; subst h; exact hx.2⟩
theorem SameV.ints {k : IntKind} {n : Nat} {l m : List Int} (h : l = m) : SameV (.ints k n l) (.ints k n m) := ⟨rfl, rfl, fun ρ x hx => by subst h; simpa only [RV1] using hx⟩

/-- What a run gives, said otherwise. -/
def SameR (v v' : AV) : Prop := ∀ ρ x, RV ρ v x → RV ρ0 v' x
theorem SameV.r {v v' : AV} (h : SameV v v') : SameR v v' := fun ρ x hx => RV_of_RV1 (h.2.2 ρ x (RV1_of_RV hx h.1))
theorem SameR.tup2 {a b a' b' : AV} (h1 : SameV a a') (h2 : SameV b b') : SameR (.tup [a, b]) (.tup [a', b']) := by
  intro ρ x hx
  simp only [RV, RV1s] at hx ⊢
  obtain ⟨xs, ⟨y, ys, p1, ⟨z, zs, p2, rfl, rfl⟩, rfl⟩, rfl⟩ := hx
  exact ⟨_, ⟨y, _, h1.2.2 ρ y p1, ⟨z, _, h2.2.2 ρ z p2, rfl, rfl⟩, rfl⟩, rfl⟩
theorem SameR.tup3 {a b c a' b' c' : AV} (h1 : SameV a a') (h2 : SameV b b') (h3 : SameV c c') : SameR (.tup [a, b, c]) (.tup [a', b', c']) := by
  intro ρ x hx
  simp only [RV, RV1s] at hx ⊢
  obtain ⟨xs, ⟨y, ys, p1, ⟨z, zs, p2, ⟨t, ts, p3, rfl, rfl⟩, rfl⟩, rfl⟩, rfl⟩ := hx
  exact ⟨_, ⟨y, _, h1.2.2 ρ y p1, ⟨z, _, h2.2.2 ρ z p2, ⟨t, _, h3.2.2 ρ t p3, rfl, rfl⟩, rfl⟩, rfl⟩, rfl⟩

theorem Pure.by_run (hm : P.follows .mixedOrders = true) (X : EnvX P) (n f : Nat) (args : List AV) {ob : List Bool} {v v' : AV} (h : (callX X (exec X n) f args [] 0).map (fun r => (r.1, r.2.1)) = some (ob, v)) (hob : ∀ b ∈ ob, b = true)
    (hv : SameR v v') : Pure P f args v' := by
  intro xs w hx
  cases hc : callX X (exec X n) f args [] 0 with
  | none => simp [hc] at h
  | some r =>
    obtain ⟨ob', u, H', nk'⟩ := r
    simp [hc] at h; obtain ⟨rfl, rfl⟩ := h
    refine (Calls.of_exec hm X n f 0 args [] H' _ _ nk' hc hob (Rep.start w) hx).mono ?_
    rintro x w' ⟨ρ', _, h2, h3⟩
    exact ⟨hv ρ' x h2, h3.below.below⟩

def Ctr.u1 (f : Nat) (F : BitVec 256 → AV) (ok : ∀ a, Pure P f [.u a] (F a)) : Ctr P :=
  Ctr.of f (fun | [.u a] => some ([], F a) | _ => none) (by
    intro args ob v h _
    split at h <;> simp at h
    obtain ⟨_, rfl⟩ := h
    exact ok _)

def Ctr.u2 (f : Nat) (F : BitVec 256 → BitVec 256 → AV) (ok : ∀ a b, Pure P f [.u a, .u b] (F a b)) : Ctr P :=
  Ctr.of f (fun | [.u a, .u b] => some ([], F a b) | _ => none) (by
    intro args ob v h _
    split at h <;> simp at h
    obtain ⟨_, rfl⟩ := h
    exact ok _ _)

def Ctr.u3 (f : Nat) (F : BitVec 256 → BitVec 256 → BitVec 256 → AV) (ok : ∀ a b c, Pure P f [.u a, .u b, .u c] (F a b c)) : Ctr P :=
  Ctr.of f (fun | [.u a, .u b, .u c] => some ([], F a b c) | _ => none) (by
    intro args ob v h _
    split at h <;> simp at h
    obtain ⟨_, rfl⟩ := h
    exact ok _ _ _)

/-- A number of 256 bits, and one of 64. -/
def Ctr.un (f : Nat) (F : BitVec 256 → Nat → AV) (ok : ∀ (a : BitVec 256) (n : Nat), n < 18446744073709551616 → Pure P f [.u a, .int .u64 n] (F a n)) : Ctr P :=
  Ctr.of f (fun | [.u a, .int .u64 n] => some ([inR n], F a n.toNat) | _ => none) (by
    intro args ob v h hob
    split at h <;> simp at h
    obtain ⟨rfl, rfl⟩ := h
    rename_i a n
    have := hob (inR n) (by simp)
    simp only [inR, Bool.and_eq_true, decide_eq_true_eq] at this
    obtain ⟨m, rfl⟩ := Int.eq_ofNat_of_zero_le this.1
    exact ok a m (by omega))

def Ctr.n1 (f : Nat) (F : Nat → AV) (ok : ∀ (n : Nat), n < 18446744073709551616 → Pure P f [.int .u64 n] (F n)) : Ctr P :=
  Ctr.of f (fun | [.int .u64 n] => some ([inR n], F n.toNat) | _ => none) (by
    intro args ob v h hob
    split at h <;> simp at h
    obtain ⟨rfl, rfl⟩ := h
    rename_i n
    have := hob (inR n) (by simp)
    simp only [inR, Bool.and_eq_true, decide_eq_true_eq] at this
    obtain ⟨m, rfl⟩ := Int.eq_ofNat_of_zero_le this.1
    exact ok m (by omega))

def Ctr.z0 (f : Nat) (v : AV) (ok : Pure P f [] v) : Ctr P :=
  Ctr.of f (fun | [] => some ([], v) | _ => none) (by
    intro args ob v h _
    split at h <;> simp at h
    obtain ⟨_, rfl⟩ := h
    exact ok)
end

/-- Decisions by function and region. -/
def brL : List (Nat × Nat × Bool) → Nat → Nat → St → Option Bool
  | [], _, _, _ => none
  | (f, r, d) :: l, f', r', s => match Nat.beq f f' && Nat.beq r r' with
    | true => some d
    | false => brL l f' r' s
end Go.Proofs.Ytglcjmnkhmdlhaa

/- Loops of a symbolic run, where what is known is said otherwise from round to round. -/
namespace Go.Proofs.Ytglcjmnkhmdlhaa
open Go Go.RowKit

/-- What fits 's' fits 's'' too. -/
def Sim (s s' : St) : Prop := ∀ ρ B W a w, StS ρ s B W a w → StS ρ s' B W a w
theorem Sim.refl (s : St) : Sim s s := fun _ _ _ _ _ h => h
theorem Sim.of_eq {s s' : St} (h : s = s') : Sim s s' := h ▸ Sim.refl s

def SimC (v v' : AV) : Prop := ∀ ρ cs, RC ρ v cs → RC ρ v' cs
theorem SimC.refl (v : AV) : SimC v v := fun _ _ h => h
def SimB : Option Blk → Option Blk → Prop
  | none, none => True
  | some b, some b' => b.t = b'.t ∧ b.own = b'.own ∧ SimC b.v b'.v
  | _, _ => False
def SimH : Heap → Heap → Prop
  | [], [] => True
  | x :: H, x' :: H' => SimB x x' ∧ SimH H H'
  | _, _ => False
def SimS : List AV → List AV → Prop
  | [], [] => True
  | v :: l, v' :: l' => (∀ ρ x, RV ρ v x → RV ρ v' x) ∧ SimS l l'
  | _, _ => False
theorem SimH.refl : ∀ H : Heap, SimH H H
  | [] => trivial
  | none :: H => ⟨trivial, SimH.refl H⟩
  | some _ :: H => ⟨⟨rfl, rfl, SimC.refl _⟩, SimH.refl H⟩
theorem SimS.refl : ∀ l : List AV, SimS l l
  | [] => trivial
  | _ :: l => ⟨fun _ _ h => h, SimS.refl l⟩
theorem SimS.len : ∀ {l l' : List AV}, SimS l l' → l.length = l'.length
  | [], [], _ => rfl
  | [], _ :: _, h => h.elim
  | _ :: _, [], h => h.elim
  | _ :: _, _ :: _, h => by simp [SimS.len h.2]
theorem SimS.get {ρ : Env} : ∀ {l l' : List AV}, SimS l l' → ∀ i x, RV ρ (sget l i) x → RV ρ (sget l' i) x
  | [], [], _, _, _, h => h
  | [], _ :: _, h, _, _, _ => h.elim
  | _ :: _, [], h, _, _, _ => h.elim
  | _ :: _, _ :: _, h, 0, x, hx => h.1 ρ x hx
  | _ :: _, _ :: _, h, i + 1, x, hx => SimS.get h.2 i x hx
theorem SimH.get : ∀ {H H' : Heap}, SimH H H' → ∀ k, SimB (hget H k) (hget H' k)
  | [], [], _, k => by simp [hget_nil, SimB]
  | [], _ :: _, h, _ => h.elim
  | _ :: _, [], h, _ => h.elim
  | none :: H, none :: H', h, 0 => trivial
  | some b :: H, some b' :: H', h, 0 => h.1
  | none :: H, some b' :: H', h, 0 => h.1.elim
  | some b :: H, none :: H', h, 0 => h.1.elim
  | x :: H, x' :: H', h, k + 1 => by
    have := SimH.get h.2 k
    cases x <;> cases x' <;> exact this

theorem Sim.of {s s' : St} (hs : SimS s.ss s'.ss) (hH : SimH s.H s'.H) : Sim s s' := by
  intro ρ B W a w h
  refine ⟨fun i => hs.get i _ (h.sl i), ?_, h.df, ?_⟩
  · show s'.ss.length = _
    rw [← hs.len]; exact h.len
  · have hr : Rep ρ s.H B W.w w := h.rep
    refine ⟨hr.below, hr.bnd, ?_, hr.inj, ?_⟩
    · intro k x hk
      have hk : hget s'.H k = some x := hk
      have hb := hH.get k
      rw [hk] at hb
      cases hg : hget s.H k with
      | none => rw [hg] at hb; exact hb.elim
      | some y =>
        rw [hg] at hb
        obtain ⟨e1, e2, e3⟩ := hb
        obtain ⟨b, cs, mk, h1, h2, h3, h4⟩ := hr.blk k y hg
        exact ⟨b, cs, mk, h1, by rw [← e1]; exact h2, e3 ρ cs h3, by rw [← e2]; exact h4⟩
    · intro k hk
      have hk : hget s'.H k = none := hk
      have hb := hH.get k
      rw [hk] at hb
      cases hg : hget s.H k with
      | none => exact hr.dom k hg
      | some y => rw [hg] at hb; exact hb.elim

section
variable {P : Program}

/-- One round, and what is kept of it. -/
def stepX (X : EnvX P) (n : Nat) (gi : FI P) (path : List Nat) (keep : List Nat) (m : Nat) (s : St) : Option (List Bool × Ex × St) :=
  (exec X n gi (0 :: path) 0 (loopAt gi path) s).map fun r => (r.1, r.2.1, forget keep m r.2.2.2)

theorem hget_long {m : Nat} : ∀ (H : Heap) (k : Nat), H.length ≤ k → hget H k = none
  | [], k, _ => hget_nil k
  | _ :: _, 0, h => by simp at h
  | _ :: H, k + 1, h => hget_long (m := m) H k (by simpa using h)

theorem rounds_sim (hm : P.follows .mixedOrders = true) (X X' : EnvX P) (n : Nat) (gi : FI P) (path : List Nat) (st : Nat → St) (keep : List Nat) (m N : Nat) (e : Ex) (s0 sf : St)
    (hsub : subC gi.body path = some (.loop (loopAt gi path))) (hs0 : Sim s0 (st 0)) (hH : ∀ i, i ≤ N → (st i).H.length ≤ m)
    (hstep : ∀ i, i < N → ∃ ob s2, stepX X n gi path keep m (st i) = some (ob, .normal, s2) ∧ (∀ b ∈ ob, b = true) ∧ belowSt m s2 = true ∧ Sim s2 (st (i + 1)))
    (hend : ∃ ob last, exec X' n gi (0 :: path) 0 (loopAt gi path) (st N) = some (ob, e, last, sf) ∧ (∀ b ∈ ob, b = true)) (hne : e ≠ .normal) : CodeOK P (.loop (loopAt gi path)) s0 e sf := by
  have hsub2 : subC gi.body (0 :: path) = some (loopAt gi path) := by simp [subC, hsub, child]
  intro ρ B W a w Q hst0 hq
  have hst := hs0 ρ B W a w hst0
  refine wp_loop_rounds (N + 1) ?_
  have key : ∀ d i (ρ : Env) (a : Act) (w : World), i + d = N → StS ρ (st i) B W a w → (∀ ρ' a' w', Env.le ρ ρ' → StS ρ' sf B W a' w' → Q e.to a' w') → Code.rounds P (loopAt gi path) Q (d + 1) a w := by
    intro d
    induction d with
    | zero =>
      intro i ρ a w hi hst hq
      have : i = N := by omega
      subst this
      obtain ⟨ob, last, h1, h2⟩ := hend
      rw [rounds_succ]
      refine exec_sound hm X' n gi _ _ _ _ _ _ _ _ hsub2 h1 h2 ρ B W a w _ hst fun ρ' a' w' hle hst' => ?_
      cases e with
      | normal => exact absurd rfl hne
      | exit id => exact hq ρ' a' w' hle hst'
      | ret => exact hq ρ' a' w' hle hst'
    | succ d ih =>
      intro i ρ a w hi hst hq
      obtain ⟨ob, s2, h1, h2, h3, h4⟩ := hstep i (by omega)
      unfold stepX at h1
      cases hx : exec X n gi (0 :: path) 0 (loopAt gi path) (st i) with
      | none => simp [hx] at h1
      | some r =>
        obtain ⟨ob', e', last, s1⟩ := r
        simp [hx] at h1; obtain ⟨rfl, rfl, rfl⟩ := h1
        rw [rounds_succ]
        refine exec_sound hm X n gi _ _ _ _ _ _ _ _ hsub2 hx h2 ρ B W a w _ hst fun ρ' a' w' hle hst' => ?_
        have hst2 := h4 _ _ _ _ _ (forget_sound (keep := keep) (m := m) h3 hst')
        refine ih (i + 1) (cutE m ρ') a' w' (by omega) hst2 fun ρ2 a2 w2 hle2 hst3 => hq ρ2 a2 w2 ?_ hst3
        intro k b hk
        refine hle2 k b ?_
        have hkm : k < m := by
          rcases Nat.lt_or_ge k m with h | h
          · exact h
          · have hd : hget (st i).H k = none := hget_long (m := m) _ k (by have := hH i (by omega); omega)
            have hr : Rep ρ (st i).H B W.w w := hst.rep
            rw [hr.dom k hd] at hk
            simp at hk
        simp only [cutE, hkm, if_true]
        exact hle k b hk
  exact key N 0 ρ a w (by omega) hst hq

/-- The same, where the surroundings may hang on the round. -/
theorem rounds_var (hm : P.follows .mixedOrders = true) (n : Nat) (gi : FI P) (path : List Nat) (st : Nat → St) (keep : List Nat) (m N : Nat) (e : Ex) (s0 sf : St)
    (hsub : subC gi.body path = some (.loop (loopAt gi path))) (hs0 : Sim s0 (st 0)) (hH : ∀ i, i ≤ N → (st i).H.length ≤ m)
    (hstep : ∀ i, i < N → ∃ X ob s2, stepX X n gi path keep m (st i) = some (ob, .normal, s2) ∧ (∀ b ∈ ob, b = true) ∧ belowSt m s2 = true ∧ Sim s2 (st (i + 1)))
    (hend : ∃ X' ob last, exec X' n gi (0 :: path) 0 (loopAt gi path) (st N) = some (ob, e, last, sf) ∧ (∀ b ∈ ob, b = true)) (hne : e ≠ .normal) : CodeOK P (.loop (loopAt gi path)) s0 e sf := by
  have hsub2 : subC gi.body (0 :: path) = some (loopAt gi path) := by simp [subC, hsub, child]
  intro ρ B W a w Q hst0 hq
  have hst := hs0 ρ B W a w hst0
  refine wp_loop_rounds (N + 1) ?_
  have key : ∀ d i (ρ : Env) (a : Act) (w : World), i + d = N → StS ρ (st i) B W a w → (∀ ρ' a' w', Env.le ρ ρ' → StS ρ' sf B W a' w' → Q e.to a' w') → Code.rounds P (loopAt gi path) Q (d + 1) a w := by
    intro d
    induction d with
    | zero =>
      intro i ρ a w hi hst hq
      have : i = N := by omega
      subst this
      obtain ⟨X', ob, last, h1, h2⟩ := hend
      rw [rounds_succ]
      refine exec_sound hm X' n gi _ _ _ _ _ _ _ _ hsub2 h1 h2 ρ B W a w _ hst fun ρ' a' w' hle hst' => ?_
      cases e with
      | normal => exact absurd rfl hne
      | exit id => exact hq ρ' a' w' hle hst'
      | ret => exact hq ρ' a' w' hle hst'
    | succ d ih =>
      intro i ρ a w hi hst hq
      obtain ⟨X, ob, s2, h1, h2, h3, h4⟩ := hstep i (by omega)
      unfold stepX at h1
      cases hx : exec X n gi (0 :: path) 0 (loopAt gi path) (st i) with
      | none => simp [hx] at h1
      | some r =>
        obtain ⟨ob', e', last, s1⟩ := r
        simp [hx] at h1; obtain ⟨rfl, rfl, rfl⟩ := h1
        rw [rounds_succ]
        refine exec_sound hm X n gi _ _ _ _ _ _ _ _ hsub2 hx h2 ρ B W a w _ hst fun ρ' a' w' hle hst' => ?_
        have hst2 := h4 _ _ _ _ _ (forget_sound (keep := keep) (m := m) h3 hst')
        refine ih (i + 1) (cutE m ρ') a' w' (by omega) hst2 fun ρ2 a2 w2 hle2 hst3 => hq ρ2 a2 w2 ?_ hst3
        intro k b hk
        refine hle2 k b ?_
        have hkm : k < m := by
          rcases Nat.lt_or_ge k m with h | h
          · exact h
          · have hd : hget (st i).H k = none := hget_long (m := m) _ k (by have := hH i (by omega); omega)
            have hr : Rep ρ (st i).H B W.w w := hst.rep
            rw [hr.dom k hd] at hk
            simp at hk
        simp only [cutE, hkm, if_true]
        exact hle k b hk
  exact key N 0 ρ a w (by omega) hst hq
end

theorem SimC.u4 {l : List Int} {y : BitVec 256} (h : l = [limb y 0, limb y 1, limb y 2, limb y 3]) : SimC (.ints .u64 4 l) (.u y) := by
  subst h
  intro ρ cs hc
  simp only [RC] at hc ⊢
  obtain ⟨_, rfl⟩ := hc
  rfl
theorem SimC.of_u4 {l : List Int} {y : BitVec 256} (h : l = [limb y 0, limb y 1, limb y 2, limb y 3]) : SimC (.u y) (.ints .u64 4 l) := by
  subst h
  intro ρ cs hc
  simp only [RC] at hc ⊢
  exact ⟨rfl, by rw [hc]; rfl⟩
end Go.Proofs.Ytglcjmnkhmdlhaa

/- Contracts of functions that read one block of memory. -/
namespace Go.Proofs.Ytglcjmnkhmdlhaa
open Go Go.RowKit

def ρ1 (b : Nat) : Env := fun j => if j = 0 then some b else none

/-- One block of the memory, as it is only read. -/
theorem Rep.one {ρ : Env} {H : Heap} {B : Fr} {W w : World} {k b : Nat} {x : Blk} {v : AV} (hr : Rep ρ H B W w) (hk : hget H k = some x) (hb : ρ k = some b) (hv : ∀ cs, RC ρ x.v cs → RC (ρ1 b) v cs) :
    Rep (ρ1 b) [some ⟨x.t, v, false⟩] (· < w.heap.size) w w := by
  refine ⟨Keep.refl _ _, fun _ h => h, ?_, ?_, ?_⟩
  · intro j y hj
    cases j with
    | zero =>
      simp [hget] at hj; subst hj
      obtain ⟨b', cs, mk, h1, h2, h3, _⟩ := hr.blk k x hk
      rw [hb] at h1
      simp at h1; subst h1
      exact ⟨b, cs, mk, by simp [ρ1], h2, hv cs h3, by simp⟩
    | succ j => simp [hget] at hj
  · intro j j' c h1 h2
    simp only [ρ1] at h1 h2
    split at h1 <;> split at h2 <;> simp_all
  · intro j hj
    cases j with
    | zero => simp [hget] at hj
    | succ j => simp [ρ1]

section
variable {P : Program}

/-- The call comes to 'v', where the first argument is a slice of 'n' of the block 'x'. -/
def PureS (P : Program) (f : Nat) (p : Path) (n c : Nat) (args : List AV) (T : Nat) (x : AV) (v : AV) : Prop :=
  ∀ (b : Nat) (xs : List Value) (w : World) (cs : List Value) (mk : Nat × Nat), w.heap[b]? = some (.cells cs.toArray T mk) → RC ρ0 x cs → RV1s (ρ1 b) (.sl 0 p n c :: args) xs → CallOK P f xs.toArray w fun y w' => RV ρ0 v y ∧ Below w.heap.size w w'

theorem Rep.block {b T : Nat} {x : AV} {cs : List Value} {mk : Nat × Nat} {w : World} (h : w.heap[b]? = some (.cells cs.toArray T mk)) (hx : RC (ρ1 b) x cs) : Rep (ρ1 b) [some ⟨T, x, false⟩] (· < w.heap.size) w w := by
  refine ⟨Keep.refl _ _, fun _ h => h, ?_, ?_, ?_⟩
  · intro j y hj
    cases j with
    | zero =>
      simp [hget] at hj; subst hj
      exact ⟨b, cs, mk, by simp [ρ1], h, hx, by simp⟩
    | succ j => simp [hget] at hj
  · intro j j' c h1 h2
    simp only [ρ1] at h1 h2
    split at h1 <;> split at h2 <;> simp_all
  · intro j hj
    cases j with
    | zero => simp [hget] at hj
    | succ j => simp [ρ1]

theorem PureS.by_run (hm : P.follows .mixedOrders = true) (X : EnvX P) (n f : Nat) (p : Path) (m c : Nat) (args : List AV) (T : Nat) (x : AV) {ob : List Bool} {v v' : AV}
    (h : (callX X (exec X n) f (.sl 0 p m c :: args) [some ⟨T, x, false⟩] 1).map (fun r => (r.1, r.2.1)) = some (ob, v)) (hob : ∀ b ∈ ob, b = true) (hv : SameR v v') : PureS P f p m c args T x v' := by
  intro b xs w cs mk hb hx ha
  cases hc : callX X (exec X n) f (.sl 0 p m c :: args) [some ⟨T, x, false⟩] 1 with
  | none => simp [hc] at h
  | some r =>
    obtain ⟨ob', u, H', nk'⟩ := r
    simp [hc] at h; obtain ⟨rfl, rfl⟩ := h
    have hx1 : RC (ρ1 b) x cs := RC.mono (fun k b hb => by simp [ρ0] at hb) _ _ hx
    refine (Calls.of_exec hm X n f 1 _ _ H' _ _ nk' hc hob (Rep.block hb hx1) ha).mono ?_
    rintro y w' ⟨ρ', _, h2, h3⟩
    exact ⟨hv ρ' y h2, h3.below.below⟩

/-- A contract that reads the block of its first argument, a slice. -/
def Ctr.ofS (f T : Nat) (g : AV → Path → Nat → Nat → List AV → Option (List Bool × AV)) (ok : ∀ x p n c args ob v, g x p n c args = some (ob, v) → (∀ b ∈ ob, b = true) → PureS P f p n c args T x v) : Ctr P where
  f := f
  g := fun args lk => match args with
    | .sl k p n c :: rest => match lk k with
      | some b => match Nat.beq b.t T, norm b.v, normL rest with
        | true, some (o1, x), some (o2, rest') => (g x p n c rest').map fun r => { v := r.2, ob := o1 ++ (o2 ++ r.1), rd := [k] }
        | _, _, _ => none
      | none => none
    | _ => none
  loc := by
    intro args lk lk' E h hk
    (try simp only at h ⊢)
    split at h <;> try contradiction
    rename_i k p n c rest
    split at h <;> try contradiction
    rename_i b hb
    split at h <;> try contradiction
    rename_i o1 x o2 rest' h1 h2 h3
    cases hg : g x p n c rest' with
    | none => simp [hg] at h
    | some r =>
      simp [hg] at h; subst h
      have : lk' k = lk k := hk k (by simp)
      simp [this, hb, h1, h2, h3, hg]
  ok := by
    intro ρ H B W w args xs E h hob hr ha
    (try simp only at h)
    split at h <;> try contradiction
    rename_i k p n c rest
    split at h <;> try contradiction
    rename_i b hb
    split at h <;> try contradiction
    rename_i o1 x o2 rest' h1 h2 h3
    cases hg : g x p n c rest' with
    | none => simp [hg] at h
    | some r =>
      simp [hg] at h; subst h
      obtain ⟨bb, cs, mk, e1, e2, e3, _⟩ := hr.blk k b hb
      have hx := norm_RC b.v cs o1 x e3 h2 (fun q hq => hob q (by simp [hq]))
      simp only [RV1s] at ha
      obtain ⟨y, ys, a1, a2, rfl⟩ := ha
      have a2' := normL_RV1s rest ys o2 rest' a2 h3 (fun q hq => hob q (by simp [hq]))
      have a1' : RV1 (ρ1 bb) (.sl 0 p n c) y := by
        simp only [RV1, RC] at a1 ⊢
        obtain ⟨b2, q1, q2⟩ := a1
        rw [e1] at q1
        simp at q1; subst q1
        exact ⟨bb, by simp [ρ1], q2⟩
      have hall : RV1s (ρ1 bb) (.sl 0 p n c :: rest') (y :: ys) := by
        simp only [RV1s]
        exact ⟨y, ys, a1', RV1s.mono (fun k b hb => by simp [ρ0] at hb) _ _ a2', rfl⟩
      have hT := Nat.eq_of_beq_eq_true h1
      rw [hT] at e2
      refine (ok x p n c rest' r.1 r.2 hg (fun q hq => hob q (by simp [hq])) bb (y :: ys) w cs mk e2 hx hall).mono ?_
      rintro z w' ⟨g1, g2⟩
      exact ⟨ρ, Env.le.refl ρ, g1.ofρ0 ρ, hr.later g2⟩
end
end Go.Proofs.Ytglcjmnkhmdlhaa

/- One operation, one region, a scope: within a fence that names a round (the body of a range over a function), or names none. -/
namespace Go.Proofs.Ytglcjmnkhmdlhaa
open Go Go.RowKit

/-- No fence but the round that the frame is of. -/
abbrev FR (r : Option Nat) : Fence := { Fence.wide with round := r }

section
variable {P : Program} {ρ : Env} {H : Heap} {B : Fr} {W w : World} {ss : List AV} {a : Act} {o : Oper} {E : Eff} {r : Option Nat}

theorem FR_fn (f : FuncId) : (FR r).fn f := trivial
theorem FR_depth {n : Nat} : ((FR r).depth.isSome = true → 1 ≤ n) := fun h => by simp [Fence.wide] at h

theorem callsFR {n : Nat} {f : FuncId} {args : Array Value} {w : World} {R : Ending → World → Prop} (h : Calls P f args w R) : CallsIn (FR r) n P f args w R :=
  (callsIn_wide (n := n)).2 h

theorem opEff0_nodefer {cs : List (Ctr P)} {hi : Hint} {key : Nat} {lk : Nat → Option Blk} (h : opEff0 P cs hi key ss lk o = some E) : ∀ c, o.op ≠ .defer c := by
  intro c hc
  unfold opEff0 at h
  simp only [hc] at h
  unfold effOp at h
  simp only [hc] at h
  exact absurd h (by simp)

theorem wpIn_of_run {K : Act → World → Prop} {Q : Exit → Act → World → Prop} (hd : ∀ c, o.op ≠ .defer c) (h : o.wp P a w K Q) (hr : (∃ x w', (execOp a.eval o).run P w = .ok (.value x) w') ∨ (∃ w', (execOp a.eval o).run P w = .ok .skip w') ∨ (∃ f xs w', (execOp a.eval o).run P w = .ok (.enter f xs) w')) : o.wpIn (FR r) 0 P a w K Q := by
  unfold Oper.wpIn
  refine ⟨fun _ _ => trivial, ?_⟩
  rw [Oper.semAt_plain _ _ _ hd]
  unfold Oper.wp at h
  rcases hr with ⟨x, w', hr⟩ | ⟨w', hr⟩ | ⟨f, xs, w', hr⟩
  · rw [hr] at h ⊢; exact h
  · rw [hr] at h ⊢; exact h
  · rw [hr] at h ⊢
    refine ⟨FR_depth, ?_⟩
    exact (callsFR (n := 0 - 1) h).mono fun e w'' he => by cases e <;> exact he

theorem wpIn_of_gives {K : Act → World → Prop} {Q : Exit → Act → World → Prop} (hd : ∀ c, o.op ≠ .defer c) (h : Gives P ρ H B W w (execOp a.eval o) E)
    (hK : ∀ ρ' x w', Env.le ρ ρ' → RV ρ' E.v x → Rep ρ' (Eff.app H E.wr) B W w' → K (a.put o.dst x) w') : o.wpIn (FR r) 0 P a w K Q := by
  have h' := h
  obtain ⟨x, ρ', w', hrun, h1, h2, h3⟩ := h'
  refine wpIn_of_run hd (wp_of_gives h hK) ?_
  rcases hrun with hrun | ⟨hrun, rfl⟩
  · exact .inl ⟨_, _, hrun⟩
  · exact .inr (.inl ⟨_, hrun⟩)

/-- A call that the operation makes. -/
theorem wpIn_of_call {f : Nat} {xs : Array Value} {K : Act → World → Prop} {Q : Exit → Act → World → Prop} {R : Value → World → Prop} (hd : ∀ c, o.op ≠ .defer c) (hrun : execOp a.eval o = callFunc f xs) (h : CallOK P f xs w R) (hK : ∀ x w', R x w' → K (a.put o.dst x) w') : o.wpIn (FR r) 0 P a w K Q := by
  unfold Oper.wpIn
  refine ⟨fun _ _ => trivial, ?_⟩
  rw [Oper.semAt_plain _ _ _ hd, hrun]
  rcases h with ⟨y, hy, h3⟩ | ⟨he, hc⟩
  · rw [hy]; exact hK y w h3
  · rw [he]
    refine ⟨FR_depth, callsFR (hc.mono ?_)⟩
    rintro en w' ⟨y, rfl, h3⟩
    exact hK y w' h3

theorem effCall_soundIn {cs : List (Ctr P)} {c : Call} {K : Act → World → Prop} {Q : Exit → Act → World → Prop} (hr : Rep ρ H B W w) (hsl : SlotsR ρ ss a.tmps) (ho : o.op = .call c) (h : effCall P cs ss (hget H) c = some E) (hob : ∀ b ∈ E.ob, b = true)
    (hK : ∀ ρ' x w', Env.le ρ ρ' → RV ρ' E.v x → Rep ρ' (Eff.app H E.wr) B W w' → K (a.put o.dst x) w') : o.wpIn (FR r) 0 P a w K Q := by
  have hd : ∀ c, o.op ≠ .defer c := by intro c' h'; rw [ho] at h'; cases h'
  unfold effCall at h
  split at h <;> try contradiction
  rename_i x hcb
  have hx := evS_RV hsl x
  split at h <;> try contradiction
  rename_i f cap e
  split at h <;> try contradiction
  rename_i t hc hf
  simp only [Bool.and_eq_true] at hc
  rw [e] at hx
  simp only [RV, RV1, RC] at hx
  obtain ⟨xs, hxs, e2⟩ := hx
  simp at e2
  have hff := findC_f cs f t hf
  have hcall := t.ok ρ H B W w _ _ E h hob hr (RV1s_append _ _ _ _ (evArgs_RV (a := a) hsl _ _ hc.2) (RV1s_of_RCs _ _ hc.1 hxs))
  rw [hff] at hcall
  exact wpIn_of_call hd (call_run (a := a) ho hcb e2) hcall fun y w' ⟨ρ', h1, h2, h3⟩ => hK ρ' y w' h1 h2 h3

theorem opEff0_soundIn {cs : List (Ctr P)} {hi : Hint} {key : Nat} {K : Act → World → Prop} {Q : Exit → Act → World → Prop} (hr : Rep ρ H B W w) (hsl : SlotsR ρ ss a.tmps) (h : opEff0 P cs hi key ss (hget H) o = some E) (hob : ∀ b ∈ E.ob, b = true)
    (hK : ∀ ρ' x w', Env.le ρ ρ' → RV ρ' E.v x → Rep ρ' (Eff.app H E.wr) B W w' → K (a.put o.dst x) w') : o.wpIn (FR r) 0 P a w K Q := by
  have hd := opEff0_nodefer h
  unfold opEff0 at h
  split at h
  · exact wpIn_of_gives hd (pickD_sound hr hsl ‹_› h hob) hK
  · split at h
    · exact effCall_soundIn hr hsl ‹_› h hob hK
    · exact wpIn_of_gives hd (effOp_sound hr hsl h hob) hK
  · exact wpIn_of_gives hd (effOp_sound hr hsl h hob) hK

theorem opEff_soundIn {cs : List (Ctr P)} {hi : Hint} {ops : Array Oper} {key i : Nat} {K : Act → World → Prop} {Q : Exit → Act → World → Prop} (hr : Rep ρ H B W w) (hsl : SlotsR ρ ss a.tmps) (hoi : ops[i]? = some o)
    (h : opEff P cs hi ops.toList key ss (hget H) o = some E) (hob : ∀ b ∈ E.ob, b = true)
    (hK : ∀ ρ' x w', Env.le ρ ρ' → RV ρ' E.v x → Rep ρ' (Eff.app H E.wr) B W w' → K (a.put o.dst x) w') : wpOpIn (FR r) 0 P ops Q i K a w := by
  unfold opEff at h
  unfold wpOpIn
  rw [hoi]
  simp only
  split at h <;> try contradiction
  · rename_i ob hw
    cases h0 : opEff0 P cs hi key ss (hget H) o with
    | none => simp [h0] at h
    | some F =>
      simp [h0] at h; subst h
      have hw := wantedA_sound hsl hw (fun b hb => hob b (by simp [Eff.more, hb]))
      rw [if_pos hw]
      exact opEff0_soundIn hr hsl h0 (fun b hb => hob b (by simp [Eff.more, hb])) hK
  · rename_i ob hw
    simp at h; subst h
    have hw := wantedA_sound hsl hw hob
    rw [if_neg (by rw [hw]; decide)]
    exact ⟨fun _ _ => trivial, hK ρ undef w (Env.le.refl ρ) (by simp [RV, RV1]) hr⟩

theorem effAt_soundIn {W : WD} {ops : Array Oper} {cs : List (Ctr P)} {hi : Hint} {nk i : Nat} {E : Eff} {s : RS} {K : Act → World → Prop} {Q : Exit → Act → World → Prop} (hs : StR ρ s B W a w) (h : effAt P cs hi ops.toList nk i s = some E) (hob : ∀ b ∈ E.ob, b = true)
    (hK : ∀ ρ' a' w', Env.le ρ ρ' → StR ρ' (appAt ops.toList i E s) B W a' w' → K a' w') : wpOpIn (FR r) 0 P ops Q i K a w := by
  unfold effAt at h
  split at h <;> try contradiction
  rename_i o hoi
  have hoi' : ops[i]? = some o := by simpa using hoi
  refine opEff_soundIn hs.rep hs.sl hoi' h hob fun ρ' x w' h1 h2 h3 => hK ρ' _ w' h1 ?_
  have hd : dstOf ops.toList i = o.dst := by rw [dstOf_eq, hoi]; rfl
  obtain ⟨p1, p2⟩ := (hs.sl.mono h1).put hs.len o.dst h2
  have hdf : (a.put o.dst x).defers = W.d := by rw [← hs.df]; cases o.dst <;> rfl
  exact ⟨by simpa only [appAt, hd] using p1, by simpa only [appAt, hd] using p2, hdf, h3⟩

theorem stepR_scope {b : Frame} {a : Act} {k : List Item} {cs : List Frame} {w : World} {c : Code} : step P (lone (b.atR a (.code (.scope c) :: k)) cs w) = .next (lone (b.atR a (.code c :: .inScope c :: k)) cs w) :=
  step_lone_go (by simp [stepG, stepG.exec, Frame.atR])
theorem stepR_inScope {b : Frame} {a : Act} {k : List Item} {cs : List Frame} {w : World} {c : Code} : step P (lone (b.atR a (.inScope c :: k)) cs w) = .next (lone (b.atR a k) cs w) :=
  step_lone_go (by simp [stepG, stepG.exec, Frame.atR])
theorem wpIn_scope_straight {F : Fence} {n : Nat} {Q : Exit → Act → World → Prop} {c : Code} (h : c.wpIn F n P (Exit.noGoto Q) a w) : (Code.scope c).wpIn F n P Q a w := by
  intro b k cs hro hb hr
  have h0 : (lone (b.atR a (.code (.scope c) :: k)) cs w).fenced P F := fenced_calm hb hr rfl
  obtain ⟨e, a₁, w₁, hq, harr⟩ := h b (.inScope c :: k) cs hro hb hr
  cases e with
  | normal => exact ⟨.normal, a₁, w₁, hq, .head h0 stepR_scope (StepsIn.trans harr (.one (fenced_calm hb hr rfl) stepR_inScope))⟩
  | exit id =>
    have hx : exitTo id (.inScope c :: k) = exitTo id k := by simp [exitTo]
    exact ⟨.exit id, a₁, w₁, hq, fun k' hk => .head h0 stepR_scope (harr.1 k' (by rw [hx]; exact hk)),
      fun hr' hk => let ⟨k₁, h1, h2⟩ := harr.2 hr' (by rw [hx]; exact hk); ⟨k₁, h1, .head h0 stepR_scope h2⟩⟩
  | goto l => exact hq.elim
  | ret => exact ⟨_, a₁, w₁, hq, .of_steps (.one h0 stepR_scope) harr⟩
  | panic ch => exact ⟨_, a₁, w₁, hq, .of_steps (.one h0 stepR_scope) harr⟩
  | outgrown => exact ⟨_, a₁, w₁, hq, .of_steps (.one h0 stepR_scope) harr⟩
end
end Go.Proofs.Ytglcjmnkhmdlhaa

