/- One operation of a region, with its guard; calls by contracts; a region whatever its order. -/
import Derived.Test.YtakmgioeldbkcaaXA
import Derived.Orders
namespace Go.Proofs.Ytakmgioeldbkcaa
open Go Go.RowKit

/-- What a call comes to: at once, or by the callee's text. -/
def CallOK (P : Program) (f : Nat) (xs : Array Value) (w : World) (R : Value → World → Prop) : Prop :=
  (∃ x, (callFunc f xs).run P w = .ok (.value x) w ∧ R x w) ∨ ((callFunc f xs).run P w = .ok (.enter f xs) w ∧ Calls P f xs w fun e w' => ∃ x, e = .returned x ∧ R x w')

/-- A function's contract. -/
structure Ctr (P : Program) where
  f : Nat
  g : List AV → (Nat → Option Blk) → Option Eff
  loc : ∀ args lk lk' E, g args lk = some E → (∀ k ∈ E.rd, lk' k = lk k) → g args lk' = some E
  ok : ∀ ρ H B W w args xs E, g args (hget H) = some E → (∀ b ∈ E.ob, b = true) → Rep ρ H B W w → RV1s ρ args xs →
    CallOK P f xs.toArray w fun x w' => ∃ ρ', Env.le ρ ρ' ∧ RV ρ' E.v x ∧ Rep ρ' (Eff.app H E.wr) B W w'

def findC {P : Program} : List (Ctr P) → Nat → Option (Ctr P)
  | [], _ => none
  | c :: l, f => match Nat.beq c.f f with
    | true => some c
    | false => findC l f

theorem findC_f {P : Program} : ∀ (l : List (Ctr P)) (f : Nat) (c : Ctr P), findC l f = some c → c.f = f
  | [], f, c, h => by simp [findC] at h
  | d :: l, f, c, h => by
    simp only [findC] at h
    split at h
    · rename_i hb; simp at h; subst h; exact Nat.eq_of_beq_eq_true hb
    · exact findC_f l f c h

def AV.noTup : AV → Bool
  | .tup _ => false
  | _ => true

def evArgs (P : Program) (ss : List AV) : List Nat → List Operand → List AV
  | t :: ts, x :: xs => evT P ss t x :: evArgs P ss ts xs
  | [], x :: xs => evS ss x :: evArgs P ss [] xs
  | _, [] => []

section
variable {P : Program} {ρ : Env} {H : Heap} {B : Nat} {W w : World} {ss : List AV} {a : Act} {o : Oper} {E : Eff}

theorem RV1_of_RV {v : AV} {x : Value} (h : RV ρ v x) (hn : v.noTup = true) : RV1 ρ v x := by
  cases v <;> simp only [AV.noTup] at hn <;> first | contradiction | exact h

theorem evArgs_RV (hsl : SlotsR ρ ss a.tmps) : ∀ (ts : List Nat) (xs : List Operand), (evArgs P ss ts xs).all AV.noTup = true → RV1s ρ (evArgs P ss ts xs) (xs.map a.eval)
  | ts, [], _ => by cases ts <;> simp [evArgs, RV1s]
  | [], x :: xs, h => by
    simp only [evArgs, List.all_cons, Bool.and_eq_true] at h
    simp only [evArgs, List.map_cons, RV1s]
    exact ⟨_, _, RV1_of_RV (evS_RV hsl x) h.1, evArgs_RV hsl [] xs h.2, rfl⟩
  | t :: ts, x :: xs, h => by
    simp only [evArgs, List.all_cons, Bool.and_eq_true] at h
    simp only [evArgs, List.map_cons, RV1s]
    exact ⟨_, _, RV1_of_RV (evT_RV hsl t x) h.1, evArgs_RV hsl ts xs h.2, rfl⟩

theorem RV1s_append : ∀ (l m : List AV) (xs ys : List Value), RV1s ρ l xs → RV1s ρ m ys → RV1s ρ (l ++ m) (xs ++ ys)
  | [], m, xs, ys, h1, h2 => by simp only [RV1s] at h1; subst h1; simpa using h2
  | v :: l, m, xs, ys, h1, h2 => by
    simp only [RV1s] at h1
    obtain ⟨x, zs, h3, h4, rfl⟩ := h1
    simp only [List.cons_append, RV1s]
    exact ⟨x, zs ++ ys, h3, RV1s_append l m zs ys h4 h2, rfl⟩

theorem RV1s_of_RCs : ∀ (l : List AV) (cs : List Value), l.all AV.one = true → RCs ρ l cs → RV1s ρ l cs
  | [], cs, _, h => by simpa only [RCs, RV1s] using h
  | v :: l, cs, ha, h => by
    simp only [List.all_cons, Bool.and_eq_true] at ha
    simp only [RCs] at h
    obtain ⟨c1, c2, h1, h2, rfl⟩ := h
    obtain ⟨x, rfl, hx, _⟩ := RV.of_cell h1 ha.1
    simp only [RV1s]
    refine ⟨x, c2, RV1_of_RV hx ?_, RV1s_of_RCs l c2 ha.2 h2, rfl⟩
    have := ha.1
    cases v <;> first | rfl | simp [AV.one] at this

def effCall (P : Program) (cs : List (Ctr P)) (ss : List AV) (lk : Nat → Option Blk) (c : Call) : Option Eff :=
  match c.callee with
  | .value x => match evS ss x with
    | .fn f cap => match cap.all AV.one && (evArgs P ss c.argTypes.toList c.args.toList).all AV.noTup, findC cs f with
      | true, some t => t.g (evArgs P ss c.argTypes.toList c.args.toList ++ cap) lk
      | _, _ => none
    | _ => none
  | _ => none

theorem call_run {c : Call} {x : Operand} {f : Nat} {xs : List Value} (ho : o.op = .call c) (hcb : c.callee = .value x) (hx : a.eval x = .func (.func f) #[] xs.toArray) :
    execOp a.eval o = callFunc f (c.args.toList.map a.eval ++ xs).toArray := by
  have hp : ∀ {α β : Type} (v : α) (f : α → Sem β), (Pure.pure v : Sem α) >>= f = f v := fun v f => rfl
  simp only [execOp, ho, resolve, hcb, hx, Deferred.ofValue, hp, invoke]
  congr 1
  apply Array.toList_inj.1
  simp

theorem effCall_sound {cs : List (Ctr P)} {c : Call} {K : Act → World → Prop} {Q : Exit → Act → World → Prop} (hr : Rep ρ H B W w) (hsl : SlotsR ρ ss a.tmps) (ho : o.op = .call c) (h : effCall P cs ss (hget H) c = some E) (hob : ∀ b ∈ E.ob, b = true)
    (hK : ∀ ρ' x w', Env.le ρ ρ' → RV ρ' E.v x → Rep ρ' (Eff.app H E.wr) B W w' → K (a.put o.dst x) w') : o.wp P a w K Q := by
  unfold effCall at h
  split at h <;> try contradiction
  rename_i x hcb
  have hx := evS_RV hsl x
  split at h <;> try contradiction
  rename_i f cap e
  split at h <;> try contradiction
  rename_i t hc hf
  simp only [Bool.and_eq_true] at hc
  rw [e] at hx
  simp only [RV, RV1, RC] at hx
  obtain ⟨xs, hxs, e2⟩ := hx
  simp at e2
  have hff := findC_f cs f t hf
  have hcall := t.ok ρ H B W w _ _ E h hob hr (RV1s_append _ _ _ _ (evArgs_RV (a := a) hsl _ _ hc.2) (RV1s_of_RCs _ _ hc.1 hxs))
  unfold Oper.wp
  rw [call_run (a := a) ho hcb e2]
  rw [hff] at hcall
  rcases hcall with ⟨y, hy, ρ', h1, h2, h3⟩ | ⟨hrun, hcalls⟩
  · rw [hy]
    exact hK ρ' y w h1 h2 h3
  · rw [hrun]
    refine hcalls.mono ?_
    rintro en w' ⟨y, rfl, ρ', h1, h2, h3⟩
    exact hK ρ' y w' h1 h2 h3

/-- Whether an operation is wanted: its guard's slot; 'dec': what is taken for known of a slot. -/
def dstOf : List Oper → Nat → Option Nat
  | [], _ => none
  | o :: _, 0 => o.dst
  | _ :: l, j + 1 => dstOf l j

def wantedA (dec : Nat → Option Bool) (ops : List Oper) (ss : List AV) (o : Oper) : Option (List Bool × Bool) :=
  match o.guard with
  | none => some ([], true)
  | some (j, want) => match dstOf ops j with
    | some d => match sget ss d with
      | .bool b => match dec d with
        | some c => some ([b == c], c == want)
        | none => match b with
          | true => some ([], want)
          | false => some ([], !want)
      | .undef => some ([], false)
      | _ => none
    | none => none

theorem dstOf_eq : ∀ (l : List Oper) (j : Nat), dstOf l j = (l[j]?).bind (·.dst)
  | [], j => by simp [dstOf]
  | o :: l, 0 => by simp [dstOf]
  | o :: l, j + 1 => by simp [dstOf, dstOf_eq l j]

theorem wantedA_sound {dec : Nat → Option Bool} {ops : Array Oper} {ob : List Bool} {r : Bool} (hsl : SlotsR ρ ss a.tmps) (h : wantedA dec ops.toList ss o = some (ob, r)) (hob : ∀ b ∈ ob, b = true) :
    Region.wanted o (yielded ops a.tmps) = r := by
  unfold wantedA at h
  unfold Region.wanted
  split at h
  · rename_i hg; simp at h; rw [hg]; simpa using h.2
  · rename_i j want hg
    rw [hg]
    simp only
    split at h <;> try contradiction
    rename_i d hd
    rw [dstOf_eq] at hd
    have hyld : yielded ops a.tmps j = match a.tmps[d]? with | some (.bool b) => some b | _ => none := by
      unfold yielded
      have : (ops[j]?).bind (·.dst) = some d := by simpa using hd
      rw [this]; rfl
    have hv := hsl d
    split at h <;> try contradiction
    · rename_i b hb
      rw [hb] at hv
      have hv := RV_bool hv
      have ht : a.tmps[d]? = some (.bool b) := by
        cases hh : a.tmps[d]? with
        | none => simp [Array.getD_eq_getD_getElem?, hh, undef] at hv
        | some y => simp [Array.getD_eq_getD_getElem?, hh] at hv; rw [hv]
      rw [hyld, ht]
      simp only
      split at h
      · rename_i c _
        simp at h; obtain ⟨rfl, rfl⟩ := h
        have := hob (b == c) (by simp)
        simp at this; subst this
        cases b <;> cases want <;> rfl
      · split at h
        · simp at h; rw [← h.2]; cases want <;> rfl
        · simp at h; obtain ⟨_, rfl⟩ := h; cases r <;> rfl
    · rename_i hb
      rw [hb] at hv
      simp only [RV, RV1] at hv
      simp at h; obtain ⟨_, rfl⟩ := h
      have : yielded ops a.tmps j = none := by
        rw [hyld]
        cases hh : a.tmps[d]? with
        | none => rfl
        | some y => simp [Array.getD_eq_getD_getElem?, hh] at hv; subst hv; rfl
      rw [this]
      cases want <;> rfl

/-- A choice between two slots, of which it may be known which. -/
def pickD (P : Program) (dec : Nat → Option Bool) (ss : List AV) (T : Nat) (c x y : Operand) : Option Eff :=
  match c with
  | .tmp t => match dec t, sget ss t with
    | some d, .bool b => match d with
      | true => some { v := evT P ss T x, ob := [b == true] }
      | false => some { v := evT P ss T y, ob := [b == false] }
    | _, _ => effPick P ss T c x y
  | c => effPick P ss T c x y

theorem pickD_sound {dec : Nat → Option Bool} {T : Nat} {c x y : Operand} (hr : Rep ρ H B W w) (hsl : SlotsR ρ ss a.tmps) (ho : o.op = .pick c x y) (h : pickD P dec ss T c x y = some E) (hob : ∀ b ∈ E.ob, b = true) : Gives P ρ H B W w (execOp a.eval o) E := by
  unfold pickD at h
  split at h
  · rename_i t
    split at h
    · rename_i d b hd hb
      have hc := evS_RV hsl (.tmp t)
      simp only [evS, hb] at hc
      have hc := RV_bool hc
      split at h <;> simp at h <;> subst h
      · have := hob (b == true) (by simp)
        simp at this; subst this
        exact Gives.pure hr (by simp [execOp, ho, hc, asBool]) (evT_RV hsl T x)
      · have := hob (b == false) (by simp)
        simp at this; subst this
        exact Gives.pure hr (by simp [execOp, ho, hc, asBool]) (evT_RV hsl T y)
    · exact effPick_sound hr hsl ho h
  · exact effPick_sound hr hsl ho h

def Eff.more (E : Eff) (ob : List Bool) : Eff := { E with ob := ob ++ E.ob }

/-- What is known of a region from outside: may its tests be noted down, and what is taken for known. -/
structure Hint where
  sym : Bool := false
  dec : Nat → Option Bool := fun _ => none

def opEff0 (P : Program) (cs : List (Ctr P)) (h : Hint) (key : Nat) (ss : List AV) (lk : Nat → Option Blk) (o : Oper) : Option Eff :=
  match o.op with
  | .pick c x y => pickD P h.dec ss o.type c x y
  | .call c => match c.callee with
    | .value _ => effCall P cs ss lk c
    | _ => effOp P h.sym key ss lk o
  | _ => effOp P h.sym key ss lk o

def opEff (P : Program) (cs : List (Ctr P)) (h : Hint) (ops : List Oper) (key : Nat) (ss : List AV) (lk : Nat → Option Blk) (o : Oper) : Option Eff :=
  match wantedA h.dec ops ss o with
  | some (ob, true) => (opEff0 P cs h key ss lk o).map fun E => E.more ob
  | some (ob, false) => some { v := .undef, ob := ob }
  | none => none

theorem wp_of_gives {K : Act → World → Prop} {Q : Exit → Act → World → Prop} (h : Gives P ρ H B W w (execOp a.eval o) E)
    (hK : ∀ ρ' x w', Env.le ρ ρ' → RV ρ' E.v x → Rep ρ' (Eff.app H E.wr) B W w' → K (a.put o.dst x) w') : o.wp P a w K Q := by
  obtain ⟨x, ρ', w', hrun, h1, h2, h3⟩ := h
  unfold Oper.wp
  rcases hrun with hrun | ⟨hrun, rfl⟩
  · rw [hrun]; exact hK ρ' x w' h1 h2 h3
  · rw [hrun]; exact hK ρ' undef w' h1 h2 h3

theorem opEff0_sound {cs : List (Ctr P)} {hi : Hint} {key : Nat} {K : Act → World → Prop} {Q : Exit → Act → World → Prop} (hr : Rep ρ H B W w) (hsl : SlotsR ρ ss a.tmps) (h : opEff0 P cs hi key ss (hget H) o = some E) (hob : ∀ b ∈ E.ob, b = true)
    (hK : ∀ ρ' x w', Env.le ρ ρ' → RV ρ' E.v x → Rep ρ' (Eff.app H E.wr) B W w' → K (a.put o.dst x) w') : o.wp P a w K Q := by
  unfold opEff0 at h
  split at h
  · exact wp_of_gives (pickD_sound hr hsl ‹_› h hob) hK
  · split at h
    · exact effCall_sound hr hsl ‹_› h hob hK
    · exact wp_of_gives (effOp_sound hr hsl h hob) hK
  · exact wp_of_gives (effOp_sound hr hsl h hob) hK

theorem opEff_sound {cs : List (Ctr P)} {hi : Hint} {ops : Array Oper} {key i : Nat} {K : Act → World → Prop} {Q : Exit → Act → World → Prop} (hr : Rep ρ H B W w) (hsl : SlotsR ρ ss a.tmps) (hoi : ops[i]? = some o)
    (h : opEff P cs hi ops.toList key ss (hget H) o = some E) (hob : ∀ b ∈ E.ob, b = true)
    (hK : ∀ ρ' x w', Env.le ρ ρ' → RV ρ' E.v x → Rep ρ' (Eff.app H E.wr) B W w' → K (a.put o.dst x) w') : wpOp P ops Q i K a w := by
  unfold opEff at h
  unfold wpOp
  rw [hoi]
  simp only
  split at h <;> try contradiction
  · rename_i ob hw
    cases h0 : opEff0 P cs hi key ss (hget H) o with
    | none => simp [h0] at h
    | some F =>
      simp [h0] at h; subst h
      have hw := wantedA_sound hsl hw (fun b hb => hob b (by simp [Eff.more, hb]))
      rw [if_pos hw]
      exact .inl (opEff0_sound hr hsl h0 (fun b hb => hob b (by simp [Eff.more, hb])) hK)
  · rename_i ob hw
    simp at h; subst h
    have hw := wantedA_sound hsl hw hob
    rw [if_neg (by rw [hw]; decide)]
    exact hK ρ undef w (Env.le.refl ρ) (by simp [RV, RV1]) hr

/-! ### What it hangs on -/
variable {ss' : List AV} {lk lk' : Nat → Option Blk}

theorem evArgs_congr : ∀ (ts : List Nat) (xs : List Operand), (∀ x ∈ xs, evS ss' x = evS ss x) → evArgs P ss' ts xs = evArgs P ss ts xs
  | ts, [], _ => by cases ts <;> rfl
  | [], x :: xs, h => by simp only [evArgs]; rw [h x (by simp), evArgs_congr [] xs (fun y hy => h y (by simp [hy]))]
  | t :: ts, x :: xs, h => by simp only [evArgs]; rw [evT_congr (h x (by simp)), evArgs_congr ts xs (fun y hy => h y (by simp [hy]))]

theorem opEff_local {cs : List (Ctr P)} {hi : Hint} {ops : Array Oper} {key : Nat} (h : opEff P cs hi ops.toList key ss lk o = some E) (hs : ∀ t ∈ o.looksAt ops, sget ss' t = sget ss t) (hk : ∀ k ∈ E.rd, lk' k = lk k) :
    opEff P cs hi ops.toList key ss' lk' o = some E := by
  have hop : ∀ x ∈ o.op.operands, evS ss' x = evS ss x := by
    intro x hx
    cases x with
    | tmp t => exact hs t (by unfold Oper.looksAt; simp only [List.mem_append, List.mem_filterMap]; exact .inl ⟨.tmp t, by simpa using hx, rfl⟩)
    | const v => rfl
    | global g => rfl
    | func f => rfl
  have hwant : wantedA hi.dec ops.toList ss' o = wantedA hi.dec ops.toList ss o := by
    unfold wantedA
    split
    · rfl
    · rename_i j want hg
      split
      · rename_i d hd
        rw [dstOf_eq] at hd
        have hd2 : (ops[j]?).bind (·.dst) = some d := by simpa using hd
        have hmem : d ∈ o.looksAt ops := by
          unfold Oper.looksAt
          simp only [List.mem_append, hg, hd2]
          exact .inr (by simp)
        rw [hs d hmem]
      · rfl
  unfold opEff at h ⊢
  rw [hwant]
  split at h <;> try contradiction
  · rename_i ob hw
    cases h0 : opEff0 P cs hi key ss lk o with
    | none => simp [h0] at h
    | some F =>
      simp [h0] at h; subst h
      have hk : ∀ k ∈ F.rd, lk' k = lk k := hk
      have : opEff0 P cs hi key ss' lk' o = some F := by
        unfold opEff0 at h0 ⊢
        split at h0
        · rename_i c x y ho
          rw [ho] at hop
          simp only [Op.operands] at hop
          have hc := hop c (by simp)
          have e1 := evT_congr (P := P) (T := o.type) (hop x (by simp))
          have e2 := evT_congr (P := P) (T := o.type) (hop y (by simp))
          have hp : effPick P ss' o.type c x y = effPick P ss o.type c x y := by
            unfold effPick; rw [hc, e1, e2]
          unfold pickD at h0 ⊢
          split at h0
          · rename_i t
            simp only [evS] at hc
            simp only [hc, e1, e2, hp]; exact h0
          · rw [hp]; exact h0
        · rename_i c ho
          split at h0
          · rename_i x hx
            rw [ho] at hop
            simp only [Op.operands, Call.operands, hx] at hop
            have hcx := hop x (by simp)
            have ha := evArgs_congr (P := P) c.argTypes.toList c.args.toList (fun y hy => hop y (by simp; exact .inr (by simpa using hy)))
            unfold effCall at h0 ⊢
            (try simp only [hx, hcx, ha] at h0 ⊢)
            split at h0 <;> try contradiction
            split at h0 <;> try contradiction
            rename_i f cap _ t hc hf
            exact t.loc _ lk lk' F h0 hk
          · exact effOp_local h0 hop hk
        · exact effOp_local h0 hop hk
      simp [this]
  · exact h
end
end Go.Proofs.Ytakmgioeldbkcaa
