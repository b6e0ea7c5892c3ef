/- Texts of this claim, one behind the other. -/
import Derived.Test.YtglcjmnkhmdlhaaK2
import Derived.Defers
import Derived.RangeFuncRecord
import Derived.RangeFuncOwn
import Derived.Lib.Builder
import Derived.Lib.AppendStr
import Derived.Lib.UnsafeStr

/- A symbolic run that branches: what it comes to is a tree. Trees; one operation; regions. -/
namespace Go.Proofs.Ytglcjmnkhmdlhaa
open Go Go.RowKit

/-- What a run comes to: 'ite' goes by a test that is not known, 'need' is a test that must hold. -/
inductive T (α : Type) where
  | leaf (a : α)
  | ite (c : Bool) (t e : T α)
  | need (c : Bool) (t : T α)
  | bad

namespace T
def bind {α β : Type} : T α → (α → T β) → T β
  | .leaf a, f => f a
  | .ite c t e, f => .ite c (bind t f) (bind e f)
  | .need c t, f => .need c (bind t f)
  | .bad, _ => .bad
def map {α β : Type} (f : α → β) : T α → T β
  | .leaf a => .leaf (f a)
  | .ite c t e => .ite c (map f t) (map f e)
  | .need c t => .need c (map f t)
  | .bad => .bad
def holds {α : Type} : T α → (α → Prop) → Prop
  | .leaf a, Q => Q a
  | .ite c t e, Q => (c = true → holds t Q) ∧ (c = false → holds e Q)
  | .need c t, Q => c = true ∧ holds t Q
  | .bad, _ => False
theorem holds_leaf {α : Type} {a : α} {Q : α → Prop} : (T.leaf a).holds Q = Q a := rfl
theorem holds_ite {α : Type} {c : Bool} {t e : T α} {Q : α → Prop} : (T.ite c t e).holds Q = ((c = true → t.holds Q) ∧ (c = false → e.holds Q)) := rfl
theorem holds_need {α : Type} {c : Bool} {t : T α} {Q : α → Prop} : (T.need c t).holds Q = (c = true ∧ t.holds Q) := rfl
theorem holds_bind {α β : Type} (f : α → T β) (Q : β → Prop) : ∀ t : T α, (t.bind f).holds Q ↔ t.holds fun a => (f a).holds Q
  | .leaf a => Iff.rfl
  | .ite c t e => by simp only [bind, holds, holds_bind f Q t, holds_bind f Q e]
  | .need c t => by simp only [bind, holds, holds_bind f Q t]
  | .bad => Iff.rfl
theorem holds_map {α β : Type} (f : α → β) (Q : β → Prop) : ∀ t : T α, (t.map f).holds Q ↔ t.holds fun a => Q (f a)
  | .leaf a => Iff.rfl
  | .ite c t e => by simp only [map, holds, holds_map f Q t, holds_map f Q e]
  | .need c t => by simp only [map, holds, holds_map f Q t]
  | .bad => Iff.rfl
theorem holds.mono {α : Type} {Q Q' : α → Prop} : ∀ {t : T α}, t.holds Q → (∀ a, Q a → Q' a) → t.holds Q'
  | .leaf a, h, hq => hq a h
  | .ite c t e, h, hq => ⟨fun hc => (h.1 hc).mono hq, fun hc => (h.2 hc).mono hq⟩
  | .need c t, h, hq => ⟨h.1, h.2.mono hq⟩
  | .bad, h, _ => h
def needs {α : Type} : List Bool → T α → T α
  | [], t => t
  | b :: l, t => .need b (needs l t)
theorem holds_needs {α : Type} {t : T α} {Q : α → Prop} : ∀ l : List Bool, (needs l t).holds Q ↔ (∀ b ∈ l, b = true) ∧ t.holds Q
  | [] => by simp [needs]
  | b :: l => by simp only [needs, holds, holds_needs l]; simp [and_assoc]
/-- The leaf to which the tests lead. -/
theorem holds.out {α : Type} {Q : α → Prop} : ∀ {t : T α}, t.holds Q → ∃ a, Q a
  | .leaf a, h => ⟨a, h⟩
  | .ite true _ _, h => (h.1 rfl).out
  | .ite false _ _, h => (h.2 rfl).out
  | .need _ _, h => h.2.out
  | .bad, h => h.elim
end T

/-! ### What is known as it stands (a hint alone: nothing hangs on it) -/
def getB : List Bool → Nat → Bool
  | [], _ => false
  | b :: _, 0 => b
  | _ :: l, k + 1 => getB l k
def setB : List Bool → Nat → Bool → List Bool
  | [], 0, b => [b]
  | [], k + 1, b => false :: setB [] k b
  | _ :: l, 0, b => b :: l
  | x :: l, k + 1, b => x :: setB l k b
termination_by structural _ k => k

structure KS where
  s : St
  kn : List Bool
  kh : List Bool

def knO (ks : KS) : Operand → Bool
  | .tmp t => getB ks.kn t
  | _ => true
def knL (ks : KS) : List Operand → Bool
  | [] => true
  | x :: l => knO ks x && knL ks l
def knM (ks : KS) : Option Operand → Bool
  | none => true
  | some x => knO ks x

def isStr (P : Program) (t : Nat) : Bool :=
  match P.underlying t with
  | some .string => true
  | _ => false

/-- Are an operation's tests to be noted down? -/
def symOf (P : Program) (ks : KS) (o : Oper) : Bool :=
  match o.op with
  | .binOp op t x y _ => match op with
    | .quo | .rem | .shl | .shr => !(knO ks y)
    | .add => isStr P t || !(knO ks x && knO ks y)
    | _ => !(knO ks x && knO ks y)
  | .indexAddr _ x i => !(knO ks x && knO ks i)
  | .index t _ i => isStr P t || !(knO ks i)
  | .load _ x => !(knO ks x)
  | .store _ x _ => !(knO ks x)
  | .slice t _ lo hi _ => isStr P t || !(knM ks lo && knM ks hi)
  | .makeSlice _ x y => !(knO ks x && knO ks y)
  | .convert _ _ x => !(knO ks x)
  | _ => true

abbrev Dec := List (Nat × Bool)
def look : Dec → Nat → Option Bool
  | [], _ => none
  | (t, d) :: l, t' => match Nat.beq t t' with
    | true => some d
    | false => look l t'
def dropD : Dec → Nat → Dec
  | [], _ => []
  | (t, d) :: l, t' => match Nat.beq t t' with
    | true => dropD l t'
    | false => (t, d) :: dropD l t'
def dropO (l : Dec) : Option Nat → Dec
  | none => l
  | some t => dropD l t

theorem look_drop (t : Nat) : ∀ (l : Dec) (t' : Nat) (d : Bool), look (dropD l t) t' = some d → t' ≠ t ∧ look l t' = some d
  | [], t', d, h => by simp [dropD, look] at h
  | (u, c) :: l, t', d, h => by
    simp only [dropD] at h
    split at h
    · rename_i hb
      obtain ⟨h1, h2⟩ := look_drop t l t' d h
      have hb := Nat.eq_of_beq_eq_true hb
      refine ⟨h1, ?_⟩
      simp only [look]
      split
      · rename_i hb2
        have := Nat.eq_of_beq_eq_true hb2
        omega
      · exact h2
    · rename_i hb
      simp only [look] at h ⊢
      split at h
      · rename_i hb2
        have e := Nat.eq_of_beq_eq_true hb2
        subst e
        refine ⟨?_, h⟩
        intro e; subst e
        simp at hb
      · rename_i hb2
        exact look_drop t l t' d h

/-- What a decision says of a slot holds. -/
def DecOK (dec : Dec) (ss : List AV) : Prop := ∀ t d, look dec t = some d → ∀ b, sget ss t = .bool b → b = d
theorem DecOK.nil (ss : List AV) : DecOK [] ss := fun _ _ h => by simp [look] at h
theorem DecOK.put {dec : Dec} {ss : List AV} (h : DecOK dec ss) (dst : Option Nat) (v : AV) : DecOK (dropO dec dst) (sput ss dst v) := by
  intro t d ht b hb
  cases dst with
  | none => exact h t d ht b hb
  | some u =>
    obtain ⟨h1, h2⟩ := look_drop u dec t d ht
    simp only [sput, sget_sset] at hb
    rw [if_neg (fun hh => h1 hh.1)] at hb
    exact h t d h2 b hb

def ask1 (ks : KS) (dec : Dec) (t : Nat) : T Dec :=
  match look dec t with
  | some _ => .leaf dec
  | none => match getB ks.kn t with
    | true => .leaf dec
    | false => match sget ks.s.ss t with
      | .bool b => .ite b (.leaf ((t, true) :: dec)) (.leaf ((t, false) :: dec))
      | _ => .leaf dec

theorem ask1_spec {ks : KS} {dec : Dec} {t : Nat} {Q : Dec → Prop} (h : (ask1 ks dec t).holds Q) (hd : DecOK dec ks.s.ss) : ∃ d, Q d ∧ DecOK d ks.s.ss := by
  unfold ask1 at h
  split at h
  · exact ⟨_, h, hd⟩
  · split at h
    · exact ⟨_, h, hd⟩
    · split at h
      · rename_i b hb
        have key : ∀ c : Bool, b = c → DecOK ((t, c) :: dec) ks.s.ss := by
          intro c hc t' d' ht b' hb'
          simp only [look] at ht
          split at ht
          · rename_i hbq
            have e := Nat.eq_of_beq_eq_true hbq
            subst e
            rw [hb] at hb'
            simp at ht hb'
            rw [← hb', ← ht, hc]
          · exact hd t' d' ht b' hb'
        cases b with
        | true => exact ⟨_, h.1 rfl, key true rfl⟩
        | false => exact ⟨_, h.2 rfl, key false rfl⟩
      · exact ⟨_, h, hd⟩

section
variable {P : Program}

def askT (ops : List Oper) (ks : KS) (dec : Dec) (o : Oper) : T Dec :=
  match o.guard with
  | none => match o.op with
    | .pick (.tmp t) _ _ => ask1 ks dec t
    | _ => .leaf dec
  | some (j, _) => match dstOf ops j with
    | none => .leaf dec
    | some d => (ask1 ks dec d).bind fun dec => match o.op with
      | .pick (.tmp t) _ _ => match wantedA (look dec) ops ks.s.ss o with
        | some (_, true) => ask1 ks dec t
        | _ => .leaf dec
      | _ => .leaf dec

theorem askT_spec {ops : List Oper} {ks : KS} {dec : Dec} {o : Oper} {Q : Dec → Prop} (h : (askT ops ks dec o).holds Q) (hd : DecOK dec ks.s.ss) : ∃ d, Q d ∧ DecOK d ks.s.ss := by
  unfold askT at h
  split at h
  · split at h
    · exact ask1_spec h hd
    · exact ⟨_, h, hd⟩
  · split at h
    · exact ⟨_, h, hd⟩
    · rw [T.holds_bind] at h
      obtain ⟨d, h1, h2⟩ := ask1_spec h hd
      split at h1
      · split at h1
        · exact ask1_spec h1 h2
        · exact ⟨_, h1, h2⟩
      · exact ⟨_, h1, h2⟩

def isPick (o : Oper) : Bool :=
  match o.op with
  | .pick (.tmp _) _ _ => true
  | _ => false

def realObs (o : Oper) (E : Eff) : List Bool :=
  match isPick o with
  | true => []
  | false => E.ob

theorem wantedA_ob {dec : Dec} {ops : List Oper} {ss : List AV} {o : Oper} {ob : List Bool} {r : Bool} (hd : DecOK dec ss) (h : wantedA (look dec) ops ss o = some (ob, r)) : ∀ b ∈ ob, b = true := by
  unfold wantedA at h
  split at h
  · simp at h; obtain ⟨rfl, _⟩ := h; simp
  · split at h <;> try contradiction
    rename_i d _
    split at h <;> try contradiction
    · rename_i b hb
      split at h
      · rename_i c hc
        simp at h; obtain ⟨rfl, _⟩ := h
        simpa using hd _ _ hc _ hb
      · cases b <;> simp at h <;> (obtain ⟨rfl, _⟩ := h; simp)
    · simp at h; obtain ⟨rfl, _⟩ := h; simp

theorem pick_ob {cs : List (Ctr P)} {dec : Dec} {sym : Bool} {key : Nat} {ss : List AV} {lk : Nat → Option Blk} {o : Oper} {E : Eff} (hd : DecOK dec ss) (h : opEff0 P cs ⟨sym, look dec⟩ key ss lk o = some E) (hp : isPick o = true) : ∀ b ∈ E.ob, b = true := by
  unfold isPick at hp
  split at hp <;> try contradiction
  rename_i t x y ho
  unfold opEff0 at h
  rw [ho] at h
  simp only [pickD] at h
  split at h
  · rename_i d b hc hb
    have := hd _ _ hc _ hb
    cases d <;> simp at h <;> subst h <;> simp [this]
  · unfold effPick at h
    split at h <;> try contradiction
    rename_i b _
    cases b <;> simp at h <;> subst h <;> simp

/-- One operation, whether it is wanted or not. -/
def opT (P : Program) (cs : List (Ctr P)) (ops : List Oper) (key : Nat) (ks : KS) (dec : Dec) (o : Oper) : T (Dec × Eff) :=
  (askT ops ks dec o).bind fun d => match wantedA (look d) ops ks.s.ss o with
    | some (ob, true) => match opEff0 P cs ⟨symOf P ks o, look d⟩ key ks.s.ss (hget ks.s.H) o with
      | some E => .needs (realObs o E) (.leaf (d, E.more ob))
      | none => .bad
    | some (ob, false) => .leaf (d, { v := .undef, ob := ob })
    | none => .bad

theorem opT_spec {cs : List (Ctr P)} {ops : List Oper} {key : Nat} {ks : KS} {dec : Dec} {o : Oper} {Q : Dec × Eff → Prop} (h : (opT P cs ops key ks dec o).holds Q) (hd : DecOK dec ks.s.ss) :
    ∃ d E hi, Q (d, E) ∧ opEff P cs hi ops key ks.s.ss (hget ks.s.H) o = some E ∧ (∀ b ∈ E.ob, b = true) ∧ DecOK d ks.s.ss := by
  unfold opT at h
  rw [T.holds_bind] at h
  obtain ⟨d, h1, h2⟩ := askT_spec h hd
  split at h1
  · rename_i ob hw
    split at h1
    · rename_i E hE
      rw [T.holds_needs] at h1
      refine ⟨d, E.more ob, ⟨symOf P ks o, look d⟩, h1.2, ?_, ?_, h2⟩
      · unfold opEff
        simp only [hw, hE, Option.map_some]
      · intro b hb
        simp only [Eff.more, List.mem_append] at hb
        rcases hb with hb | hb
        · exact wantedA_ob h2 hw b hb
        · cases hp : isPick o with
          | true => exact pick_ob h2 hE hp b hb
          | false => exact h1.1 b (by unfold realObs; rw [hp]; exact hb)
    · exact h1.elim
  · rename_i ob hw
    exact ⟨d, _, ⟨true, look d⟩, h1, by unfold opEff; simp only [hw], wantedA_ob h2 hw, h2⟩
  · exact h1.elim

/-- What is known behind an operation. -/
def knRes (P : Program) (ks : KS) (dec : Dec) (o : Oper) : Bool :=
  match o.op with
  | .move x | .assign x | .convert _ _ x | .unOp _ _ x | .extract x _ => knO ks x
  | .binOp _ _ x y _ => knO ks x && knO ks y
  | .pick c x y => match c with
    | .tmp t => match look dec t with
      | some true => knO ks x
      | some false => knO ks y
      | none => match getB ks.kn t with
        | true => match sget ks.s.ss t with
          | .bool true => knO ks x
          | .bool false => knO ks y
          | _ => false
        | false => false
    | _ => knO ks x && knO ks y
  | .load _ x => match evS ks.s.ss x with
    | .ptr k _ => getB ks.kh k
    | _ => false
  | .alloc _ | .box .. | .buildSlice .. => true
  | .makeSlice _ x y => knO ks x && knO ks y
  | .indexAddr _ x i => knO ks x && knO ks i
  | .fieldAddr _ x _ => knO ks x
  | .nilCheck x => knO ks x
  | .slice _ x lo hi _ => knO ks x && knM ks lo && knM ks hi
  | .makeFunc .. => true
  | .call c => match c.callee with
    | .builtin .len => match c.argTypes.toList, c.args.toList with
      | [t], [x] => match P.underlying t with
        | some (.array _ _) => true
        | _ => knO ks x
      | _, _ => false
    | .builtin _ => knL ks c.args.toList
    | _ => false
  | _ => false

def khRes (ks : KS) (key : Nat) (o : Oper) : List Bool :=
  match o.op with
  | .alloc _ => setB ks.kh key true
  | .box _ x => setB ks.kh key (knO ks x)
  | .store _ x y => match evS ks.s.ss x with
    | .ptr k p => match isNil p with
      | true => setB ks.kh k (knO ks y)
      | false => setB ks.kh k (getB ks.kh k && knO ks y)
    | _ => ks.kh
  | _ => ks.kh

def setBO (l : List Bool) : Option Nat → Bool → List Bool
  | none, _ => l
  | some t, b => setB l t b

def KS.app (P : Program) (ks : KS) (dec : Dec) (key nk : Nat) (o : Oper) (E : Eff) : KS :=
  ⟨⟨sput ks.s.ss o.dst E.v, Eff.app ks.s.H E.wr, nk⟩, setBO ks.kn o.dst (knRes P ks dec o), khRes ks key o⟩

/-! ### A region in whatever order -/
def drawT (P : Program) (cs : List (Ctr P)) (ops : List Oper) (nk : Nat) : Nat → List Oper → KS → Dec → List (Nat × Eff) → T (List (Nat × Eff) × KS)
  | _, [], ks, _, acc => .leaf (acc.reverse, ks)
  | i, o :: l, ks, dec, acc => (opT P cs ops (nk + i) ks dec o).bind fun r => drawT P cs ops nk (i + 1) l (ks.app P r.1 (nk + i) ks.s.nk o r.2) (dropO r.1 o.dst) ((i, r.2) :: acc)

def drawnT (P : Program) (cs : List (Ctr P)) (ops : Array Oper) (ks : KS) : T KS :=
  (drawT P cs ops.toList ks.s.nk 0 ops.toList ks [] []).bind fun r => match allOn 0 ops.toList && pairsOK ops (masks ops.toList []) r.1 with
    | true => .leaf ⟨⟨r.2.s.ss, r.2.s.H, ks.s.nk + ops.toList.length⟩, r.2.kn, r.2.kh⟩
    | false => .bad

def EffAt (P : Program) (cs : List (Ctr P)) (ops : List Oper) (nk i : Nat) (s : RS) (E : Eff) : Prop := ∃ hi, effAt P cs hi ops nk i s = some E

def RunE (P : Program) (cs : List (Ctr P)) (ops : List Oper) (nk : Nat) : List (Nat × Eff) → RS → RS → Prop
  | [], s, sf => s = sf
  | (i, E) :: L, s, sf => EffAt P cs ops nk i s E ∧ RunE P cs ops nk L (appAt ops i E s) sf

theorem RunE.snoc {cs : List (Ctr P)} {ops : List Oper} {nk i : Nat} {E : Eff} : ∀ (L : List (Nat × Eff)) (s s1 : RS), RunE P cs ops nk L s s1 → EffAt P cs ops nk i s1 E → RunE P cs ops nk (L ++ [(i, E)]) s (appAt ops i E s1)
  | [], s, s1, h, h2 => by have h : s = s1 := h; subst h; exact ⟨h2, rfl⟩
  | (j, F) :: L, s, s1, h, h2 => ⟨h.1, RunE.snoc L _ _ h.2 h2⟩

theorem drawT_spec {cs : List (Ctr P)} {ops : List Oper} {nk : Nat} {s0 : RS} {Q : List (Nat × Eff) × KS → Prop} : ∀ (l : List Oper) (i : Nat) (ks : KS) (dec : Dec) (acc : List (Nat × Eff)), (∀ j x, l[j]? = some x → ops[i + j]? = some x) → (drawT P cs ops nk i l ks dec acc).holds Q →
    DecOK dec ks.s.ss → RunE P cs ops nk acc.reverse s0 ks.s.rs → (∀ q ∈ acc, ∀ b ∈ q.2.ob, b = true) → acc.reverse.map (·.1) = List.range' 0 i →
    ∃ L ks', Q (L, ks') ∧ RunE P cs ops nk L s0 ks'.s.rs ∧ (∀ q ∈ L, ∀ b ∈ q.2.ob, b = true) ∧ L.map (·.1) = List.range' 0 (i + l.length)
  | [], i, ks, dec, acc, _, h, _, h2, h3, h4 => ⟨_, _, h, h2, fun q hq => h3 q (by simpa using hq), by simpa using h4⟩
  | o :: l, i, ks, dec, acc, hl, h, hd, h2, h3, h4 => by
    have ho : ops[i]? = some o := hl 0 o (by simp)
    simp only [drawT] at h
    rw [T.holds_bind] at h
    obtain ⟨d, E, hi, h5, h6, h7, h8⟩ := opT_spec h hd
    have hdst : dstOf ops i = o.dst := by rw [dstOf_eq, ho]; rfl
    have he : EffAt P cs ops nk i ks.s.rs E := ⟨hi, by unfold effAt; rw [ho]; exact h6⟩
    have hrun : RunE P cs ops nk ((i, E) :: acc).reverse s0 (ks.app P d (nk + i) ks.s.nk o E).s.rs := by
      rw [List.reverse_cons]
      have := RunE.snoc acc.reverse s0 ks.s.rs h2 he
      simpa [appAt, hdst, KS.app, St.rs] using this
    obtain ⟨L, ks', g1, g2, g3, g4⟩ := drawT_spec l (i + 1) _ _ _ (fun j x hx => by have := hl (j + 1) x (by simpa using hx); rw [← this]; congr 1; omega) h5 (h8.put o.dst E.v) hrun
      (fun q hq => by simp only [List.mem_cons] at hq; rcases hq with rfl | hq; exact h7; exact h3 q hq) (by rw [List.reverse_cons, List.map_append, h4, List.range'_concat]; simp)
    exact ⟨L, ks', g1, g2, g3, by rw [g4]; simp only [List.length_cons]; congr 1; omega⟩
end
end Go.Proofs.Ytglcjmnkhmdlhaa

/- A region of a branching run, whatever its order. -/
namespace Go.Proofs.Ytglcjmnkhmdlhaa
open Go Go.RowKit

section
variable {P : Program} {ρ : Env} {B : Fr} {W : WD} {w : World} {a : Act} {ops : Array Oper} {cs : List (Ctr P)} {nk : Nat} {r : Option Nat}

theorem EffAt_sound {i : Nat} {E : Eff} {s : RS} {K : Act → World → Prop} {Q : Exit → Act → World → Prop} (hs : StR ρ s B W a w) (h : EffAt P cs ops.toList nk i s E) (hob : ∀ b ∈ E.ob, b = true)
    (hK : ∀ ρ' a' w', Env.le ρ ρ' → StR ρ' (appAt ops.toList i E s) B W a' w' → K a' w') : wpOpIn (FR r) 0 P ops Q i K a w := by
  obtain ⟨hi, h⟩ := h
  exact effAt_soundIn hs h hob hK
theorem commute2 {hi hj : Hint} {i j : Nat} {Ei Ej : Eff} {s : RS} (ha : apartAt ops i j = true) (hk : keysApart Ei Ej = true) (hi' : effAt P cs hi ops.toList nk i s = some Ei)
    (hj' : effAt P cs hj ops.toList nk j (appAt ops.toList i Ei s) = some Ej) :
    effAt P cs hj ops.toList nk j s = some Ej ∧ effAt P cs hi ops.toList nk i (appAt ops.toList j Ej s) = some Ei ∧
      appAt ops.toList j Ej (appAt ops.toList i Ei s) = appAt ops.toList i Ei (appAt ops.toList j Ej s) := by
  unfold apartAt at ha
  split at ha <;> try contradiction
  rename_i x y hx hy
  obtain ⟨a1, a2, a3⟩ := Oper.apart_spec ha
  have hdi : dstOf ops.toList i = x.dst := by rw [dstOf_eq, hx]; rfl
  have hdj : dstOf ops.toList j = y.dst := by rw [dstOf_eq, hy]; rfl
  have rdj : ∀ k ∈ Ej.rd, ∀ q, Ei.wr = some q → q.1 ≠ k := by
    intro k hkr q hq e
    subst e
    unfold keysApart at hk
    rw [hq] at hk
    split at hk <;> simp_all
  have rdi : ∀ k ∈ Ei.rd, ∀ q, Ej.wr = some q → q.1 ≠ k := by
    intro k hkr q hq e
    subst e
    unfold keysApart at hk
    rw [hq] at hk
    split at hk <;> simp_all
  unfold effAt at hi' hj' ⊢
  rw [hx] at hi' ⊢
  rw [hy] at hj' ⊢
  simp only at hi' hj' ⊢
  have slot : ∀ (ss : List AV) (d : Option Nat) (v : AV) (t : Nat), (∀ e, d = some e → e ≠ t) → sget (sput ss d v) t = sget ss t := by
    intro ss d v t h
    cases d with
    | none => rfl
    | some d =>
      simp only [sput, sget_sset]
      rw [if_neg (fun hh => h d rfl hh.1.symm)]
  refine ⟨?_, ?_, ?_⟩
  · refine opEff_local hj' (fun t ht => ?_) (fun k hkr => (app_get (rdj k hkr)).symm)
    simp only [appAt, hdi]
    exact (slot _ _ _ _ (fun e he => fun e2 => a1 e he (e2 ▸ ht))).symm
  · refine opEff_local hi' (fun t ht => ?_) (fun k hkr => app_get (rdi k hkr))
    simp only [appAt, hdj]
    exact slot _ _ _ _ (fun e he => fun e2 => a3 e he (e2 ▸ ht))
  · simp only [appAt, hdi, hdj]
    refine Prod.ext ?_ ?_
    · simp only
      cases hxd : x.dst with
      | none => rfl
      | some d =>
        cases hyd : y.dst with
        | none => rfl
        | some e =>
          simp only [sput]
          exact sset_comm _ _ _ _ _ (fun h => a2 d hxd (by rw [hyd, h]))
    · simp only
      cases hwi : Ei.wr with
      | none => rfl
      | some q =>
        cases hwj : Ej.wr with
        | none => rfl
        | some r =>
          obtain ⟨k, b⟩ := q
          obtain ⟨l, c⟩ := r
          simp only [Eff.app]
          apply hset_comm
          intro e
          subst e
          unfold keysApart at hk
          rw [hwi, hwj] at hk
          simp at hk

theorem commuteE {i j : Nat} {Ei Ej : Eff} {s : RS} (ha : apartAt ops i j = true) (hk : keysApart Ei Ej = true) (hi' : EffAt P cs ops.toList nk i s Ei)
    (hj : EffAt P cs ops.toList nk j (appAt ops.toList i Ei s) Ej) :
    EffAt P cs ops.toList nk j s Ej ∧ EffAt P cs ops.toList nk i (appAt ops.toList j Ej s) Ei ∧
      appAt ops.toList j Ej (appAt ops.toList i Ei s) = appAt ops.toList i Ei (appAt ops.toList j Ej s) := by
  obtain ⟨h1, e1⟩ := hi'
  obtain ⟨h2, e2⟩ := hj
  obtain ⟨c1, c2, c3⟩ := commute2 ha hk e1 e2
  exact ⟨⟨h2, c1⟩, ⟨h1, c2⟩, c3⟩

theorem run_frontE {j : Nat} {Ej : Eff} : ∀ (L1 L2 : List (Nat × Eff)) (s sf : RS), RunE P cs ops.toList nk (L1 ++ (j, Ej) :: L2) s sf → (∀ q ∈ L1, apartAt ops q.1 j = true ∧ keysApart q.2 Ej = true) →
    EffAt P cs ops.toList nk j s Ej ∧ RunE P cs ops.toList nk (L1 ++ L2) (appAt ops.toList j Ej s) sf
  | [], L2, s, sf, h, _ => h
  | (i, Ei) :: L1, L2, s, sf, h, hq => by
    obtain ⟨h1, h2⟩ := h
    obtain ⟨h3, h4⟩ := run_frontE L1 L2 _ sf h2 (fun q hq' => hq q (by simp [hq']))
    obtain ⟨q1, q2⟩ := hq (i, Ei) (by simp)
    obtain ⟨c1, c2, c3⟩ := commuteE q1 q2 h1 h3
    exact ⟨c1, c2, by rw [← c3]; exact h4⟩

/-- Whatever order the tape picks. -/
theorem run_anyE {Q : Exit → Act → World → Prop} (hon : ∀ (j : Nat) (o : Oper) (e : Edge), ops[j]? = some o → e ∈ o.after → Region.binds .any e = true → e.on < j) (sf : RS) :
    ∀ (n : Nat) (L : List (Nat × Eff)) (listed : Array Bool) (s : RS) (ρ : Env) (a : Act) (w : World), L.length = n → RunE P cs ops.toList nk L s sf → (∀ q ∈ L, ∀ b ∈ q.2.ob, b = true) →
    listed.size = ops.size → L.Pairwise (fun q r => q.1 < r.1 ∧ (Bef ops q.1 r.1 ∨ apartAt ops q.1 r.1 = true ∧ keysApart q.2 r.2 = true)) → (∀ j, j < ops.size → (listed.getD j true = false ↔ ∃ q ∈ L, q.1 = j)) →
    (∀ q ∈ L, q.1 < ops.size) → (∀ i j, listed.getD j false = true → Bef ops i j → listed.getD i false = true) →
    StR ρ s B W a w → (∀ ρ' a' w', Env.le ρ ρ' → StR ρ' sf B W a' w' → Q .normal a' w') → wpAnyIn (FR r) 0 P .any ops Q n listed a w := by
  intro n
  induction n with
  | zero =>
    intro L listed s ρ a w hl hrun _ hsz _ hiff _ _ hst hq
    have : L = [] := by cases L <;> simp_all
    subst this
    refine ⟨?_, hq ρ a w (Env.le.refl ρ) (by rw [show sf = s from hrun.symm]; exact hst)⟩
    apply List.eq_nil_iff_forall_not_mem.2
    intro j hj
    obtain ⟨h1, h2, _⟩ := ready_iff hj
    obtain ⟨q, hq, _⟩ := (hiff j h1).1 h2
    simp at hq
  | succ n ih =>
    intro L listed s ρ a w hl hrun hob hsz hpw hiff hlt hcl hst hq
    refine ⟨fun hnil => ?_, fun j hj => ?_⟩
    · -- the first that is left is ready
      exfalso
      cases L with
      | nil => simp at hl
      | cons q L =>
        obtain ⟨i, Ei⟩ := q
        have hi' := hlt (i, Ei) (by simp)
        simp only at hi'
        have hun := (hiff i hi').2 ⟨(i, Ei), by simp, rfl⟩
        have : i ∈ Region.ready .any ops listed := by
          unfold Region.ready
          simp only [List.mem_filter, List.mem_range, Bool.and_eq_true, Bool.not_eq_true']
          refine ⟨hi', hun, ?_⟩
          rw [Array.getElem?_eq_getElem hi']
          simp only [Option.map_some, Option.getD_some]
          rw [Array.all_eq_true']
          intro e he
          cases hb : Region.binds .any e with
          | false => simp
          | true =>
            have hlt' := hon i ops[i] e (by simp [hi']) he hb
            have hlis : listed.getD e.on true = true := by
              cases hh : listed.getD e.on true with
              | true => rfl
              | false =>
                obtain ⟨q, hq, e1⟩ := (hiff e.on (by omega)).1 hh
                simp only [List.mem_cons] at hq
                rcases hq with rfl | hq
                · simp only at e1; omega
                · have := (List.pairwise_cons.1 hpw).1 q hq
                  simp only at this; omega
            have hlt2 : e.on < listed.size := by omega
            simp [hlt2] at hlis ⊢
            exact hlis
        rw [hnil] at this
        simp at this
    · obtain ⟨h1, h2, o, ho, hpred⟩ := ready_iff hj
      obtain ⟨⟨j', Ej⟩, hmem, rfl⟩ := (hiff j h1).1 h2
      obtain ⟨L1, L2, rfl⟩ := List.append_of_mem hmem
      have hno : ∀ q ∈ L1, ¬ Bef ops q.1 j' := by
        intro q hqL hbef
        have hun : listed.getD q.1 true = false := (hiff q.1 (hlt q (by simp [hqL]))).2 ⟨q, by simp [hqL], rfl⟩
        have hl2 : listed.getD q.1 false = true := by
          obtain ⟨o', e, ho', he, hb, h3⟩ := hbef.inv
          rw [ho] at ho'; simp at ho'; subst ho'
          rcases h3 with h3 | h3
          · rw [h3]; exact hpred e he hb
          · exact hcl _ _ (hpred e he hb) h3
        have hlt2 : q.1 < listed.size := by rw [hsz]; exact hlt q (by simp [hqL])
        simp [hlt2] at hun hl2
        rw [hun] at hl2; simp at hl2
      have hpw2 := List.pairwise_append.1 hpw
      have hind : ∀ q ∈ L1, apartAt ops q.1 j' = true ∧ keysApart q.2 Ej = true := by
        intro q hqL
        rcases (hpw2.2.2 q hqL (j', Ej) (by simp)).2 with hb | hb
        · exact absurd hb (hno q hqL)
        · exact hb
      obtain ⟨r1, r2⟩ := run_frontE L1 L2 s sf hrun hind
      refine EffAt_sound hst r1 (hob (j', Ej) (by simp)) fun ρ' a' w' hle hst' => ?_
      have hjs : j' < listed.size := by rw [hsz]; exact h1
      refine ih (L1 ++ L2) (listed.setIfInBounds j' true) _ ρ' a' w' (by simp at hl ⊢; omega) r2 (fun q hqL => hob q (by simp at hqL ⊢; rcases hqL with h | h <;> simp [h])) (by simp [hsz]) ?_ ?_
        (fun q hqL => hlt q (by simp at hqL ⊢; rcases hqL with h | h <;> simp [h])) ?_ hst' (fun ρ2 a2 w2 h => hq ρ2 a2 w2 (hle.trans h))
      · refine List.pairwise_append.2 ⟨hpw2.1, (List.pairwise_cons.1 hpw2.2.1).2, fun q hq1 r hr => hpw2.2.2 q hq1 r (by simp [hr])⟩
      · intro k hk
        by_cases e : k = j'
        · subst e
          simp only [Array.getD_eq_getD_getElem?, Array.getElem?_setIfInBounds, if_pos hjs]
          simp
          intro Ex
          constructor
          · intro hx
            have := (hpw2.2.2 (k, Ex) hx (k, Ej) (by simp)).1; simp at this
          · intro hx
            have := ((List.pairwise_cons.1 hpw2.2.1).1 (k, Ex) hx).1; simp at this
        · have hk2 := hiff k hk
          have : (listed.setIfInBounds j' true).getD k true = listed.getD k true := by
            simp only [Array.getD_eq_getD_getElem?, Array.getElem?_setIfInBounds]
            rw [if_neg (fun h => e h.symm)]
          rw [this, hk2]
          constructor
          · rintro ⟨q, hq1, rfl⟩
            refine ⟨q, ?_, rfl⟩
            simp only [List.mem_append, List.mem_cons] at hq1 ⊢
            rcases hq1 with h | rfl | h
            · exact .inl h
            · exact absurd rfl e
            · exact .inr h
          · rintro ⟨q, hq1, rfl⟩
            refine ⟨q, ?_, rfl⟩
            simp only [List.mem_append, List.mem_cons] at hq1 ⊢
            rcases hq1 with h | h
            · exact .inl h
            · exact .inr (.inr h)
      · intro i k hk hb
        have key : ∀ m, listed.getD m false = true → (listed.setIfInBounds j' true).getD m false = true := by
          intro m hm
          simp only [Array.getD_eq_getD_getElem?, Array.getElem?_setIfInBounds] at hm ⊢
          split
          · rename_i e; subst e; simp
          · exact hm
        by_cases e : k = j'
        · subst e
          apply key
          obtain ⟨o', e, ho', he, hb2, h3⟩ := hb.inv
          rw [ho] at ho'; simp at ho'; subst ho'
          rcases h3 with h3 | h3
          · rw [h3]; exact hpred e he hb2
          · exact hcl _ _ (hpred e he hb2) h3
        · apply key
          have : listed.getD k false = true := by
            simp only [Array.getD_eq_getD_getElem?, Array.getElem?_setIfInBounds] at hk ⊢
            rw [if_neg (fun h => e h.symm)] at hk
            exact hk
          exact hcl i k this hb

/-- The same, where one operation 'z' comes behind all others. -/
theorem run_anyL {Q : Exit → Act → World → Prop} {z : Nat} (hz : z < ops.size) (hzlast : ∀ i, i < ops.size → i ≠ z → i < z) (hon : ∀ (j : Nat) (o : Oper) (e : Edge), ops[j]? = some o → e ∈ o.after → Region.binds .any e = true → e.on < j) (sf : RS) :
    ∀ (n : Nat) (L : List (Nat × Eff)) (listed : Array Bool) (s : RS) (ρ : Env) (a : Act) (w : World), L.length = n → RunE P cs ops.toList nk L s sf → (∀ q ∈ L, ∀ b ∈ q.2.ob, b = true) →
    listed.size = ops.size → L.Pairwise (fun q r => q.1 < r.1 ∧ (Bef ops q.1 r.1 ∨ apartAt ops q.1 r.1 = true ∧ keysApart q.2 r.2 = true)) → (∀ q ∈ L, Bef ops q.1 z ∧ q.1 ≠ z) → (∀ j, j < ops.size → (listed.getD j true = false ↔ (∃ q ∈ L, q.1 = j) ∨ j = z)) →
    (∀ q ∈ L, q.1 < ops.size) → (∀ i j, listed.getD j false = true → Bef ops i j → listed.getD i false = true) →
    StR ρ s B W a w → (∀ ρ' a' w', Env.le ρ ρ' → StR ρ' sf B W a' w' → wpOpIn (FR r) 0 P ops Q z (fun a w => Q .normal a w) a' w') → wpAnyIn (FR r) 0 P .any ops Q (n + 1) listed a w := by
  intro n
  induction n with
  | zero =>
    intro L listed s ρ a w hl hrun _ hsz _ _ hiff _ _ hst hq
    have : L = [] := by cases L <;> simp_all
    subst this
    have hrz : z ∈ Region.ready .any ops listed := by
      have hun := (hiff z hz).2 (.inr rfl)
      unfold Region.ready
      simp only [List.mem_filter, List.mem_range, Bool.and_eq_true, Bool.not_eq_true']
      refine ⟨hz, hun, ?_⟩
      rw [Array.getElem?_eq_getElem hz]
      simp only [Option.map_some, Option.getD_some]
      rw [Array.all_eq_true']
      intro e he
      cases hb : Region.binds .any e with
      | false => simp
      | true =>
        have hlt' := hon z ops[z] e (by simp [hz]) he hb
        have hlis : listed.getD e.on true = true := by
          cases hh : listed.getD e.on true with
          | true => rfl
          | false =>
            rcases (hiff e.on (by omega)).1 hh with ⟨q, hq, _⟩ | e1
            · simp at hq
            · omega
        have hlt2 : e.on < listed.size := by omega
        simp [hlt2] at hlis ⊢
        exact hlis
    refine ⟨fun hnil => (by rw [hnil] at hrz; simp at hrz), fun j hj => ?_⟩
    obtain ⟨h1, h2, _⟩ := ready_iff hj
    have e : j = z := by
      rcases (hiff j h1).1 h2 with ⟨q, hq, _⟩ | e
      · simp at hq
      · exact e
    subst e
    refine wpOpIn_mono ?_ (hq ρ a w (Env.le.refl ρ) (by rw [show sf = s from hrun.symm]; exact hst))
    intro a' w' hqn
    refine ⟨?_, hqn⟩
    apply List.eq_nil_iff_forall_not_mem.2
    intro k hk
    obtain ⟨g1, g2, _⟩ := ready_iff hk
    by_cases ek : k = j
    · subst ek
      have hks : k < listed.size := by omega
      simp [Array.getD_eq_getD_getElem?, Array.getElem?_setIfInBounds, hks] at g2
    · have : (listed.setIfInBounds j true).getD k true = listed.getD k true := by
        simp only [Array.getD_eq_getD_getElem?, Array.getElem?_setIfInBounds]
        rw [if_neg (fun h => ek h.symm)]
      rw [this] at g2
      rcases (hiff k g1).1 g2 with ⟨q, hq, _⟩ | e
      · simp at hq
      · exact ek e
  | succ n ih =>
    intro L listed s ρ a w hl hrun hob hsz hpw hafter hiff hlt hcl hst hq
    refine ⟨fun hnil => ?_, fun j hj => ?_⟩
    · -- the first that is left is ready
      exfalso
      cases L with
      | nil => simp at hl
      | cons q L =>
        obtain ⟨i, Ei⟩ := q
        have hi' := hlt (i, Ei) (by simp)
        simp only at hi'
        have hun := (hiff i hi').2 (.inl ⟨(i, Ei), by simp, rfl⟩)
        have : i ∈ Region.ready .any ops listed := by
          unfold Region.ready
          simp only [List.mem_filter, List.mem_range, Bool.and_eq_true, Bool.not_eq_true']
          refine ⟨hi', hun, ?_⟩
          rw [Array.getElem?_eq_getElem hi']
          simp only [Option.map_some, Option.getD_some]
          rw [Array.all_eq_true']
          intro e he
          cases hb : Region.binds .any e with
          | false => simp
          | true =>
            have hlt' := hon i ops[i] e (by simp [hi']) he hb
            have hlis : listed.getD e.on true = true := by
              cases hh : listed.getD e.on true with
              | true => rfl
              | false =>
                rcases (hiff e.on (by omega)).1 hh with ⟨q, hq, e1⟩ | e1
                · simp only [List.mem_cons] at hq
                  rcases hq with rfl | hq
                  · simp only at e1; omega
                  · have := (List.pairwise_cons.1 hpw).1 q hq
                    simp only at this; omega
                · exfalso
                  have hbz := hzlast i hi' (hafter (i, Ei) (by simp)).2
                  omega
            have hlt2 : e.on < listed.size := by omega
            simp [hlt2] at hlis ⊢
            exact hlis
        rw [hnil] at this
        simp at this
    · obtain ⟨h1, h2, o, ho, hpred⟩ := ready_iff hj
      have hjL : ∃ q ∈ L, q.1 = j := by
        rcases (hiff j h1).1 h2 with hx | hx
        · exact hx
        · exfalso
          subst hx
          cases L with
          | nil => simp at hl
          | cons q L =>
            have hbq := (hafter q (by simp)).1
            have hun : listed.getD q.1 true = false := (hiff q.1 (hlt q (by simp))).2 (.inl ⟨q, by simp, rfl⟩)
            have hl2 : listed.getD q.1 false = true := by
              obtain ⟨o', e, ho', he, hb, h3⟩ := hbq.inv
              rw [ho] at ho'; simp at ho'; subst ho'
              rcases h3 with h3 | h3
              · rw [h3]; exact hpred e he hb
              · exact hcl _ _ (hpred e he hb) h3
            have hlt2 : q.1 < listed.size := by rw [hsz]; exact hlt q (by simp)
            simp [hlt2] at hun hl2
            rw [hun] at hl2; simp at hl2
      obtain ⟨⟨j', Ej⟩, hmem, rfl⟩ := hjL
      obtain ⟨L1, L2, rfl⟩ := List.append_of_mem hmem
      have hno : ∀ q ∈ L1, ¬ Bef ops q.1 j' := by
        intro q hqL hbef
        have hun : listed.getD q.1 true = false := (hiff q.1 (hlt q (by simp [hqL]))).2 (.inl ⟨q, by simp [hqL], rfl⟩)
        have hl2 : listed.getD q.1 false = true := by
          obtain ⟨o', e, ho', he, hb, h3⟩ := hbef.inv
          rw [ho] at ho'; simp at ho'; subst ho'
          rcases h3 with h3 | h3
          · rw [h3]; exact hpred e he hb
          · exact hcl _ _ (hpred e he hb) h3
        have hlt2 : q.1 < listed.size := by rw [hsz]; exact hlt q (by simp [hqL])
        simp [hlt2] at hun hl2
        rw [hun] at hl2; simp at hl2
      have hpw2 := List.pairwise_append.1 hpw
      have hind : ∀ q ∈ L1, apartAt ops q.1 j' = true ∧ keysApart q.2 Ej = true := by
        intro q hqL
        rcases (hpw2.2.2 q hqL (j', Ej) (by simp)).2 with hb | hb
        · exact absurd hb (hno q hqL)
        · exact hb
      obtain ⟨r1, r2⟩ := run_frontE L1 L2 s sf hrun hind
      refine EffAt_sound hst r1 (hob (j', Ej) (by simp)) fun ρ' a' w' hle hst' => ?_
      have hjs : j' < listed.size := by rw [hsz]; exact h1
      refine ih (L1 ++ L2) (listed.setIfInBounds j' true) _ ρ' a' w' (by simp at hl ⊢; omega) r2 (fun q hqL => hob q (by simp at hqL ⊢; rcases hqL with h | h <;> simp [h])) (by simp [hsz]) ?_ (fun q hqL => hafter q (by simp at hqL ⊢; rcases hqL with h | h <;> simp [h])) ?_
        (fun q hqL => hlt q (by simp at hqL ⊢; rcases hqL with h | h <;> simp [h])) ?_ hst' (fun ρ2 a2 w2 h => hq ρ2 a2 w2 (hle.trans h))
      · refine List.pairwise_append.2 ⟨hpw2.1, (List.pairwise_cons.1 hpw2.2.1).2, fun q hq1 r hr => hpw2.2.2 q hq1 r (by simp [hr])⟩
      · intro k hk
        by_cases e : k = j'
        · subst e
          simp only [Array.getD_eq_getD_getElem?, Array.getElem?_setIfInBounds, if_pos hjs]
          simp
          refine ⟨fun Ex => ⟨?_, ?_⟩, (hafter (k, Ej) (by simp)).2⟩
          · intro hx
            have := (hpw2.2.2 (k, Ex) hx (k, Ej) (by simp)).1; simp at this
          · intro hx
            have := ((List.pairwise_cons.1 hpw2.2.1).1 (k, Ex) hx).1; simp at this
        · have hk2 := hiff k hk
          have : (listed.setIfInBounds j' true).getD k true = listed.getD k true := by
            simp only [Array.getD_eq_getD_getElem?, Array.getElem?_setIfInBounds]
            rw [if_neg (fun h => e h.symm)]
          rw [this, hk2]
          constructor
          · rintro (⟨q, hq1, rfl⟩ | rfl)
            case inr => exact .inr rfl
            refine .inl ⟨q, ?_, rfl⟩
            simp only [List.mem_append, List.mem_cons] at hq1 ⊢
            rcases hq1 with h | rfl | h
            · exact .inl h
            · exact absurd rfl e
            · exact .inr h
          · rintro (⟨q, hq1, rfl⟩ | rfl)
            case inr => exact .inr rfl
            refine .inl ⟨q, ?_, rfl⟩
            simp only [List.mem_append, List.mem_cons] at hq1 ⊢
            rcases hq1 with h | h
            · exact .inl h
            · exact .inr (.inr h)
      · intro i k hk hb
        have key : ∀ m, listed.getD m false = true → (listed.setIfInBounds j' true).getD m false = true := by
          intro m hm
          simp only [Array.getD_eq_getD_getElem?, Array.getElem?_setIfInBounds] at hm ⊢
          split
          · rename_i e; subst e; simp
          · exact hm
        by_cases e : k = j'
        · subst e
          apply key
          obtain ⟨o', e, ho', he, hb2, h3⟩ := hb.inv
          rw [ho] at ho'; simp at ho'; subst ho'
          rcases h3 with h3 | h3
          · rw [h3]; exact hpred e he hb2
          · exact hcl _ _ (hpred e he hb2) h3
        · apply key
          have : listed.getD k false = true := by
            simp only [Array.getD_eq_getD_getElem?, Array.getElem?_setIfInBounds] at hk ⊢
            rw [if_neg (fun h => e h.symm)] at hk
            exact hk
          exact hcl i k this hb

theorem drawnT_sound {cs : List (Ctr P)} {ops : Array Oper} {ks : KS} {id : Nat} (hm : P.follows .mixedOrders = true) {ρ : Env} {B : Fr} {W : WD} {a : Act} {w : World} {Q : Exit → Act → World → Prop} (hst : StS ρ ks.s B W a w)
    (h : (drawnT P cs ops ks).holds fun ks' => ∀ ρ' a' w', Env.le ρ ρ' → StS ρ' ks'.s B W a' w' → Q .normal a' w') : (Code.region id ops true).wpIn (FR r) 0 P Q a w := by
  unfold drawnT at h
  rw [T.holds_bind] at h
  obtain ⟨L, ks', h1, hrun, hob, hmap⟩ := drawT_spec (s0 := ks.s.rs) ops.toList 0 ks [] [] (fun j o h => by simpa using h) h (DecOK.nil _) rfl (by simp) rfl
  split at h1
  case h_2 => exact h1.elim
  rename_i hc
  simp only [Bool.and_eq_true] at hc
  have hq := h1
  refine wpIn_region_any hm ?_
  have hms : ∀ k i, (nth0 (masks ops.toList []) k).testBit i = true → Bef ops i k := masks_spec (ops := ops) ops.toList [] (fun j o h => by simpa using h) (fun k i h => by simp [nth0] at h)
  have hlen : L.length = ops.size := by have := congrArg List.length hmap; simpa using this
  refine run_anyE (fun j o e ho he hb => by have := allOn_spec ops.toList 0 hc.1 j o (by simpa using ho) e he hb; omega) ks'.s.rs ops.size L _ ks.s.rs ρ a _ hlen hrun hob (by simp) (pairsOK_spec hms L 0 _ hmap hc.2) ?_ ?_ ?_ hst.drew (fun ρ' a' w' h3 h4 => hq ρ' a' w' h3 h4)
  · intro j hj
    have hmem : j ∈ L.map (·.1) := by rw [hmap]; simp [List.mem_range'_1]; omega
    obtain ⟨q, hq1, hq2⟩ := List.mem_map.1 hmem
    constructor
    · intro _; exact ⟨q, hq1, hq2⟩
    · intro _; simp [hj]
  · intro q hq1
    have hmem : q.1 ∈ L.map (·.1) := List.mem_map_of_mem hq1
    rw [hmap] at hmem
    have := List.mem_range'_1.1 hmem
    simpa using this.2
  · intro i j hlis _
    simp [Array.getD_eq_getD_getElem?, Array.getElem?_replicate] at hlis
    split at hlis <;> simp at hlis
end
end Go.Proofs.Ytglcjmnkhmdlhaa

/- The branching run of a function's text: statements, calls, loops. -/
namespace Go.Proofs.Ytglcjmnkhmdlhaa
open Go Go.RowKit

/-- What a call of a branching run gives: the value, whether it is known as it stands, the memory. -/
structure CR where
  v : AV
  kn : Bool
  H : Heap
  nk : Nat
  kh : List Bool

abbrev CalT := Nat → List AV → List Bool → Heap → Nat → List Bool → T CR

/-- What is kept of the place at which a run stands. -/
structure CT where
  p : Env → Fr → World → Prop
  mono : ∀ {ρ ρ' : Env} {B : Fr} {W : World}, p ρ B W → Env.le ρ ρ' → p ρ' B W
def CT.none : CT := ⟨fun _ _ _ => True, fun _ _ => trivial⟩

/-- What a round of a range over a function comes to. -/
abbrev YalT := List AV → List Bool → Heap → Nat → List Bool → T CR

section
variable {P : Program} {C : CT}

def CalTOK (P : Program) (C : CT) (cal : CalT) : Prop :=
  ∀ f args kns H nk kh ρ B W w xs (R : Value → World → Prop), C.p ρ B W → Rep ρ H B W w → RV1s ρ args xs →
    (cal f args kns H nk kh).holds (fun r => ∀ ρ' x w', Env.le ρ ρ' → RV ρ' r.v x → Rep ρ' r.H B W w' → R x w') → CallOK P f xs.toArray w R

/-- A call of a loop's round. -/
def YOK (P : Program) (l : Nat) (xs : Array Value) (w : World) (R : Value → World → Prop) : Prop :=
  ∃ fn tmps assign body, (Instr.yield l xs).run P w = .ok (.round l fn tmps assign body) w ∧ RoundIn Fence.wide 0 P l fn tmps assign body w fun e w' => ∃ x, e = .returned x ∧ R x w'

def YalOK (P : Program) (C : CT) (l : Nat) (y : YalT) : Prop :=
  ∀ args kns H nk kh ρ B W w xs (R : Value → World → Prop), C.p ρ B W → Rep ρ H B W w → RV1s ρ args xs →
    (y args kns H nk kh).holds (fun r => ∀ ρ' x w', Env.le ρ ρ' → RV ρ' r.v x → Rep ρ' r.H B W w' → R x w') → YOK P l xs.toArray w R

def YO (P : Program) (C : CT) : Option (Nat × YalT) → Prop
  | none => True
  | some y => YalOK P C y.1 y.2

/-- Is the operation a call of a loop's round? -/
def yieldOf (P : Program) (ss : List AV) (o : Oper) : Option (Nat × List AV) :=
  match o.op with
  | .call c => match c.callee with
    | .value x => match evS ss x with
      | .raw v => match v with
        | .func f first cap => match f, first.toList, cap.toList, (evArgs P ss c.argTypes.toList c.args.toList).all AV.noTup with
          | .yield l, [], [], true => some (l, evArgs P ss c.argTypes.toList c.args.toList)
          | _, _, _, _ => none
        | _ => none
      | _ => none
    | _ => none
  | _ => none
theorem yieldOf_inv {ss : List AV} {o : Oper} {l : Nat} {args : List AV} (h : yieldOf P ss o = some (l, args)) : ∃ (c : Call) (x : Operand), o.op = .call c ∧ c.callee = .value x ∧ evS ss x = .raw (.func (.yield l) #[] #[]) ∧ (evArgs P ss c.argTypes.toList c.args.toList).all AV.noTup = true ∧ args = evArgs P ss c.argTypes.toList c.args.toList := by
  unfold yieldOf at h
  split at h <;> try contradiction
  rename_i c h1
  split at h <;> try contradiction
  rename_i x h2
  split at h <;> try contradiction
  rename_i v h3
  split at h <;> try contradiction
  rename_i f first cap
  split at h <;> try contradiction
  rename_i l' h4 h5 h6
  simp at h
  obtain ⟨rfl, rfl⟩ := h
  have e1 : first = #[] := by cases first; simp_all
  have e2 : cap = #[] := by cases cap; simp_all
  subst e1 e2
  exact ⟨c, x, h1, h2, h3, h6, rfl⟩
theorem yield_run {a : Act} {o : Oper} {c : Call} {x : Operand} {l : Nat} (ho : o.op = .call c) (hcb : c.callee = .value x) (hx : a.eval x = .func (.yield l) #[] #[]) :
    execOp a.eval o = Instr.yield l (c.args.toList.map a.eval).toArray := by
  have hp : ∀ {α β : Type} (v : α) (f : α → Sem β), (Pure.pure v : Sem α) >>= f = f v := fun v f => rfl
  simp only [execOp, ho, resolve, hcb, hx, Deferred.ofValue, hp, invoke]
  congr 1
  apply Array.toList_inj.1
  simp

def knArgs (ks : KS) : List Operand → List Bool
  | [] => []
  | x :: l => knO ks x :: knArgs ks l

def callKn (ks : KS) (o : Oper) : List Bool :=
  match o.op with
  | .call c => knArgs ks c.args.toList
  | _ => []

def runOpsT (P : Program) (cs : List (Ctr P)) (cal : CalT) (yl : Option (Nat × YalT)) (ops : List Oper) : List Oper → KS → Dec → T KS
  | [], ks, _ => .leaf ks
  | o :: l, ks, dec => (askT ops ks dec o).bind fun d => match wantedA (look d) ops ks.s.ss o with
    | some (ob, true) => match opEff0 P cs ⟨symOf P ks o, look d⟩ ks.s.nk ks.s.ss (hget ks.s.H) o with
      | some E => .needs (realObs o E) (runOpsT P cs cal yl ops l (ks.app P d ks.s.nk (ks.s.nk + 1) o (E.more ob)) (dropO d o.dst))
      | none => match calleeOf P ks.s.ss o with
        | some (f, args) => (cal f args (callKn ks o) ks.s.H ks.s.nk ks.kh).bind fun r => runOpsT P cs cal yl ops l ⟨⟨sput ks.s.ss o.dst r.v, r.H, r.nk⟩, setBO ks.kn o.dst r.kn, r.kh⟩ (dropO d o.dst)
        | none => match yieldOf P ks.s.ss o, yl with
          | some (l', args), some y => .need (Nat.beq l' y.1) ((y.2 args (callKn ks o) ks.s.H ks.s.nk ks.kh).bind fun r => runOpsT P cs cal yl ops l ⟨⟨sput ks.s.ss o.dst r.v, r.H, r.nk⟩, setBO ks.kn o.dst r.kn, r.kh⟩ (dropO d o.dst))
          | _, _ => .bad
    | some (ob, false) => runOpsT P cs cal yl ops l (ks.app P d ks.s.nk (ks.s.nk + 1) o { v := .undef, ob := ob }) (dropO d o.dst)
    | none => .bad

theorem runOpsT_sound {cs : List (Ctr P)} {cal : CalT} {yl : Option (Nat × YalT)} (hcal : CalTOK P C cal) (hyl : YO P C yl) {r : Option Nat} {ops : Array Oper} : ∀ (l : List Oper) (i : Nat) (ks : KS) (dec : Dec), (∀ j x, l[j]? = some x → ops.toList[i + j]? = some x) →
    ∀ (ρ : Env) (B : Fr) (W : WD) (a : Act) (w : World) (Q : Exit → Act → World → Prop), C.p ρ B W.w → StS ρ ks.s B W a w → DecOK dec ks.s.ss →
      (runOpsT P cs cal yl ops.toList l ks dec).holds (fun ks' => ∀ ρ' a' w', Env.le ρ ρ' → StS ρ' ks'.s B W a' w' → Q .normal a' w') → wpOpsIn (FR r) 0 P ops Q (List.range' i l.length) a w
  | [], i, ks, dec, _, ρ, B, W, a, w, Q, _, hst, _, h => h ρ a w (Env.le.refl ρ) hst
  | o :: l, i, ks, dec, hl, ρ, B, W, a, w, Q, hC, hst, hdec, h => by
    have ho : ops.toList[i]? = some o := hl 0 o (by simp)
    have ho' : ops[i]? = some o := by simpa using ho
    have hl' : ∀ j x, l[j]? = some x → ops.toList[i + 1 + j]? = some x := fun j x hx => by have := hl (j + 1) x (by simpa using hx); rw [← this]; congr 1; omega
    rw [List.length_cons, List.range'_succ, wpOpsIn_cons]
    have next : ∀ (ρ' : Env) (v : AV) (x : Value) (ks' : KS) (d : Dec) (w' : World), Env.le ρ ρ' → RV ρ' v x → Rep ρ' ks'.s.H B W.w w' → ks'.s.ss = sput ks.s.ss o.dst v → DecOK d ks.s.ss →
        (runOpsT P cs cal yl ops.toList l ks' (dropO d o.dst)).holds (fun ks' => ∀ ρ' a' w', Env.le ρ ρ' → StS ρ' ks'.s B W a' w' → Q .normal a' w') →
        wpOpsIn (FR r) 0 P ops Q (List.range' (i + 1) l.length) (a.put o.dst x) w' := by
      intro ρ' v x ks' d w' h1 h2 h3 hss hd hrun
      obtain ⟨p1, p2⟩ := (hst.sl.mono h1).put hst.len o.dst h2
      refine runOpsT_sound hcal hyl l (i + 1) ks' _ hl' ρ' B W _ w' Q (C.mono hC h1) ⟨by simpa only [St.rs, hss] using p1, by simpa only [St.rs, hss] using p2, ?_, h3⟩ (by rw [hss]; exact hd.put o.dst v)
        (hrun.mono fun ks2 hk ρ2 a2 w2 h4 h5 => hk ρ2 a2 w2 (h1.trans h4) h5)
      have : (a.put o.dst x).defers = a.defers := by cases o.dst <;> rfl
      rw [this]; exact hst.df
    simp only [runOpsT] at h
    rw [T.holds_bind] at h
    obtain ⟨d, h, hd⟩ := askT_spec h hdec
    split at h
    · rename_i ob hw
      have hwob := wantedA_ob hd hw
      split at h
      · rename_i E hE
        rw [T.holds_needs] at h
        obtain ⟨hreal, h⟩ := h
        have hall : ∀ b ∈ (E.more ob).ob, b = true := by
          intro b hb
          simp only [Eff.more, List.mem_append] at hb
          rcases hb with hb | hb
          · exact hwob b hb
          · cases hp : isPick o with
            | true => exact pick_ob hd hE hp b hb
            | false => exact hreal b (by unfold realObs; rw [hp]; exact hb)
        refine opEff_soundIn (cs := cs) (hi := ⟨symOf P ks o, look d⟩) (key := ks.s.nk) (E := E.more ob) hst.rep hst.sl ho' ?_ hall fun ρ' x w' h1 h2 h3 => next ρ' E.v x _ d w' h1 h2 h3 rfl hd h
        unfold opEff
        simp only [St.rs, hw, hE, Option.map_some]
      · split at h
        case h_2 =>
          split at h
          case h_2 => exact h.elim
          rename_i l' args y hf _
          obtain ⟨hb, h⟩ := h
          rw [T.holds_bind] at h
          have hwa := wantedA_sound hst.sl hw hwob
          obtain ⟨c, x, hop, hcb, e, hnt, rfl⟩ := yieldOf_inv hf
          have hb := Nat.eq_of_beq_eq_true hb
          subst hb
          have hx := evS_RV hst.sl x
          have e : evS ks.s.rs.1 x = .raw (.func (.yield y.1) #[] #[]) := e
          rw [e] at hx
          simp only [RV, RV1, RC] at hx
          have e2 : a.eval x = .func (.yield y.1) #[] #[] := by have := hx.2; simpa using this
          obtain ⟨fn, tm, asg, bd, hrun, hround⟩ := hyl _ _ _ _ _ ρ B W.w w _ (fun x w' => wpOpsIn (FR r) 0 P ops Q (List.range' (i + 1) l.length) (a.put o.dst x) w') hC hst.rep (evArgs_RV (a := a) hst.sl _ _ hnt)
            (h.mono fun r hr ρ' x w' h1 h2 h3 => next ρ' r.v x _ d w' h1 h2 h3 rfl hd hr)
          unfold wpOpIn
          rw [ho']
          simp only
          rw [if_pos hwa]
          unfold Oper.wpIn
          refine ⟨fun _ _ => trivial, ?_⟩
          rw [Oper.semAt_plain _ _ _ (by intro c' h'; rw [hop] at h'; cases h'), yield_run (a := a) hop hcb e2, hrun]
          refine ⟨FR_depth, RoundIn.mono (show RoundIn (FR r) 0 P y.1 fn tm asg bd w _ from hround) ?_⟩
          rintro en w' ⟨z, rfl, h3⟩
          exact h3
        rename_i f args hf
        rw [T.holds_bind] at h
        have hwa := wantedA_sound hst.sl hw hwob
        unfold calleeOf at hf
        split at hf <;> try contradiction
        rename_i c hop
        split at hf <;> try contradiction
        rename_i x hcb
        have hx := evS_RV hst.sl x
        split at hf <;> try contradiction
        rename_i g cap e
        split at hf <;> try contradiction
        rename_i hcc
        simp at hf; obtain ⟨rfl, rfl⟩ := hf
        simp only [Bool.and_eq_true] at hcc
        have e : evS ks.s.rs.1 x = .fn g cap := e
        rw [e] at hx
        simp only [RV, RV1, RC] at hx
        obtain ⟨xs, hxs, e2⟩ := hx
        simp at e2
        have hcall := hcal _ _ _ _ _ _ ρ B W.w w _ (fun x w' => wpOpsIn (FR r) 0 P ops Q (List.range' (i + 1) l.length) (a.put o.dst x) w') hC hst.rep (RV1s_append _ _ _ _ (evArgs_RV (a := a) hst.sl _ _ hcc.2) (RV1s_of_RCs _ _ hcc.1 hxs))
          (h.mono fun r hr ρ' x w' h1 h2 h3 => next ρ' r.v x _ d w' h1 h2 h3 rfl hd hr)
        unfold wpOpIn
        rw [ho']
        simp only
        rw [if_pos hwa]
        exact wpIn_of_call (by intro c' h'; rw [hop] at h'; cases h') (call_run (a := a) hop hcb e2) hcall fun x w' h => h
    · rename_i ob hw
      refine opEff_soundIn (cs := cs) (hi := ⟨true, look d⟩) (key := ks.s.nk) (E := { v := .undef, ob := ob }) hst.rep hst.sl ho' ?_ (wantedA_ob hd hw) fun ρ' x w' h1 h2 h3 => next ρ' .undef x (ks.app P d ks.s.nk (ks.s.nk + 1) o { v := .undef, ob := ob }) d w' h1 h2 h3 rfl hd h
      unfold opEff
      simp only [St.rs, hw]
    · exact h.elim

theorem regionT_sound {cs : List (Ctr P)} {cal : CalT} {yl : Option (Nat × YalT)} (hcal : CalTOK P C cal) (hyl : YO P C yl) {r : Option Nat} {ops : Array Oper} {ks : KS} {id : Nat} {ρ : Env} {B : Fr} {W : WD} {a : Act} {w : World} {Q : Exit → Act → World → Prop} (hC : C.p ρ B W.w) (hst : StS ρ ks.s B W a w)
    (h : (runOpsT P cs cal yl ops.toList ops.toList ks []).holds fun ks' => ∀ ρ' a' w', Env.le ρ ρ' → StS ρ' ks'.s B W a' w' → Q .normal a' w') : (Code.region id ops false).wpIn (FR r) 0 P Q a w := by
  refine wpIn_region ?_
  rw [List.range_eq_range', ← Array.length_toList]
  exact runOpsT_sound hcal hyl ops.toList 0 ks [] (fun j x h => by simpa using h) ρ B W a w Q hC hst (DecOK.nil _) h

/-- A region whose last operation comes behind all others: that one may be a call that is walked into. -/
def allBef (ms : List Nat) (z : Nat) : Bool := (List.range z).all fun j => (nth0 ms z).testBit j
def drawnLT (P : Program) (cs : List (Ctr P)) (cal : CalT) (yl : Option (Nat × YalT)) (ops : Array Oper) (ks : KS) : T KS :=
  (drawT P cs ops.toList ks.s.nk 0 ops.toList.dropLast ks [] []).bind fun r => match ops.toList.getLast? with
    | some o => match allOn 0 ops.toList && (pairsOK ops (masks ops.toList []) r.1 && allBef (masks ops.toList []) ops.toList.dropLast.length) with
      | true => runOpsT P cs cal yl ops.toList [o] ⟨⟨r.2.s.ss, r.2.s.H, ks.s.nk + ops.toList.length⟩, r.2.kn, r.2.kh⟩ []
      | false => .bad
    | none => .bad
def lastIn {P : Program} (cs : List (Ctr P)) (isIn : Nat → Bool) (ops : Array Oper) : Bool :=
  match ops.toList.getLast? with
  | some o => match o.op with
    | .call c => match c.callee with
      | .value (.func f) => match findC cs f with
        | some _ => false
        | none => isIn f
      | _ => false
    | _ => false
  | none => false
theorem drawnLT_sound {cs : List (Ctr P)} {cal : CalT} {yl : Option (Nat × YalT)} (hm : P.follows .mixedOrders = true) (hcal : CalTOK P C cal) (hyl : YO P C yl) {r : Option Nat} {ops : Array Oper} {ks : KS} {id : Nat} {ρ : Env} {B : Fr} {W : WD} {a : Act} {w : World} {Q : Exit → Act → World → Prop} (hC : C.p ρ B W.w) (hst : StS ρ ks.s B W a w)
    (h : (drawnLT P cs cal yl ops ks).holds fun ks' => ∀ ρ' a' w', Env.le ρ ρ' → StS ρ' ks'.s B W a' w' → Q .normal a' w') : (Code.region id ops true).wpIn (FR r) 0 P Q a w := by
  unfold drawnLT at h
  rw [T.holds_bind] at h
  have hdl : ∀ (j : Nat) (x : Oper), ops.toList.dropLast[j]? = some x → ops.toList[0 + j]? = some x := by
    intro j x hx
    rw [List.getElem?_dropLast] at hx
    split at hx
    · simpa using hx
    · simp at hx
  obtain ⟨L, ks', h1, hrun, hob, hmap⟩ := drawT_spec (s0 := ks.s.rs) ops.toList.dropLast 0 ks [] [] hdl h (DecOK.nil _) rfl (by simp) rfl
  split at h1
  case h_2 => exact h1.elim
  rename_i o ho
  split at h1
  case h_2 => exact h1.elim
  rename_i hc
  simp only [Bool.and_eq_true] at hc
  obtain ⟨hc1, hc2, hc3⟩ := hc
  refine wpIn_region_any hm ?_
  have hms : ∀ k i, (nth0 (masks ops.toList []) k).testBit i = true → Bef ops i k := masks_spec (ops := ops) ops.toList [] (fun j o h => by simpa using h) (fun k i h => by simp [nth0] at h)
  obtain ⟨z, hz⟩ : ∃ z, ops.toList.dropLast.length = z := ⟨_, rfl⟩
  rw [hz] at hc3
  have hsize : ops.size = z + 1 := by
    have : ops.toList ≠ [] := by intro e; rw [e] at ho; simp at ho
    have h2 : 0 < ops.toList.length := List.length_pos_iff.2 this
    simp at hz h2
    omega
  have hlen : L.length = z := by have := congrArg List.length hmap; simp at this hz; omega
  have hoz : ops.toList[z]? = some o := by
    rw [List.getLast?_eq_getElem?] at ho
    have : z = ops.toList.length - 1 := by simp at hz ⊢; omega
    rw [this]; exact ho
  rw [show ops.size = z + 1 from hsize]
  have hmem : ∀ q ∈ L, q.1 < z := by
    intro q hq1
    have hm1 : q.1 ∈ L.map (·.1) := List.mem_map_of_mem hq1
    rw [hmap] at hm1
    have := List.mem_range'_1.1 hm1
    omega
  refine run_anyL (z := z) (by omega) (fun i hi hne => by omega) (fun j o e ho he hb => by have := allOn_spec ops.toList 0 hc1 j o (by simpa using ho) e he hb; omega) ks'.s.rs z L _ ks.s.rs ρ a _ hlen hrun hob (by simp [hsize]) (pairsOK_spec hms L 0 _ hmap hc2) ?_ ?_ ?_ ?_ hst.drew ?_
  · intro q hq1
    have hlt := hmem q hq1
    refine ⟨hms _ _ ?_, by omega⟩
    exact List.all_eq_true.1 hc3 q.1 (List.mem_range.2 hlt)
  · intro j hj
    constructor
    · intro _
      by_cases e : j = z
      · exact .inr e
      · have hm1 : j ∈ L.map (·.1) := by rw [hmap]; simp [List.mem_range'_1]; omega
        obtain ⟨q, hq1, hq2⟩ := List.mem_map.1 hm1
        exact .inl ⟨q, hq1, hq2⟩
    · intro _; rw [Array.getD_eq_getD_getElem?, Array.getElem?_replicate, if_pos (by omega)]; rfl
  · intro q hq1
    have := hmem q hq1; omega
  · intro i j hlis _
    simp [Array.getD_eq_getD_getElem?, Array.getElem?_replicate] at hlis
    split at hlis <;> simp at hlis
  · intro ρ' a' w' hle hst'
    have := runOpsT_sound (P := P) (C := C) hcal hyl (r := r) (ops := ops) [o] z ⟨⟨ks'.s.ss, ks'.s.H, ks.s.nk + ops.toList.length⟩, ks'.kn, ks'.kh⟩ [] (fun j x hx => by
      cases j with
      | zero => simp at hx; subst hx; exact hoz
      | succ j => simp at hx) ρ' B W a' w' Q (C.mono hC hle) hst' (DecOK.nil _) (h1.mono fun k hk ρ2 a2 w2 g1 g2 => hk ρ2 a2 w2 (hle.trans g1) g2)
    simpa [wpOpsIn_cons, wpOpsIn] using this

abbrev ResT := T (Ex × KS)

/-- The code, from 's', comes to the tree's leaves. -/
def CodeT (P : Program) (c : Code) (s : St) (t : T (Ex × KS)) (C : CT := CT.none) : Prop :=
  ∀ (r : Option Nat) (ρ : Env) (B : Fr) (W : WD) (a : Act) (w : World) (Q : Exit → Act → World → Prop), C.p ρ B W.w → StS ρ s B W a w →
    (t.holds fun r => ∀ ρ' a' w', Env.le ρ ρ' → StS ρ' r.2.s B W a' w' → Q r.1.to a' w') → c.wpIn (FR r) 0 P Q a w

structure LCT (P : Program) (C : CT := CT.none) where
  f : Nat
  path : List Nat
  g : KS → T (Ex × KS)
  ok : ∀ (fi : FI P) (body : Code), fi.f = f → subC fi.body path = some (.loop body) → ∀ ks, CodeT P (.loop body) ks.s (g ks) C

/-- What a code at a path comes to. -/
structure CLT (P : Program) (C : CT := CT.none) where
  f : Nat
  path : List Nat
  g : KS → T (Ex × KS)
  ok : ∀ (fi : FI P) (c : Code), fi.f = f → subC fi.body path = some c → ∀ ks, CodeT P c ks.s (g ks) C

structure EnvT (P : Program) (C : CT := CT.none) where
  cs : List (Ctr P) := []
  fis : List (FI P) := []
  lcs : List (LCT P C) := []
  pins : List (Nat × List Nat × Nat × List Int) := []
  cls : List (CLT P C) := []
  yl : Option (Nat × YalT) := none
  yok : YO P C yl := by exact True.intro

def findLT {P : Program} {C : CT} (f : Nat) (path : List Nat) : List (LCT P C) → Option (LCT P C)
  | [] => none
  | c :: l => match Nat.beq c.f f && natsEq c.path path with
    | true => some c
    | false => findLT f path l
theorem findLT_spec {P : Program} {C : CT} {f : Nat} {path : List Nat} : ∀ (l : List (LCT P C)) (c : LCT P C), findLT f path l = some c → c.f = f ∧ c.path = path
  | [], c, h => by simp [findLT] at h
  | d :: l, c, h => by
    simp only [findLT] at h
    split at h
    · rename_i hb
      simp only [Bool.and_eq_true] at hb
      simp at h; subst h
      exact ⟨Nat.eq_of_beq_eq_true hb.1, natsEq_eq _ _ hb.2⟩
    · exact findLT_spec l c h

def loopT (body : KS → ResT) : Nat → KS → ResT
  | 0, _ => .bad
  | n + 1, ks => (body ks).bind fun r => match r.1 with
    | .normal => loopT body n r.2
    | _ => .leaf r

def resKn (ks : KS) : List ResultVar → Bool
  | [.tmp t] => getB ks.kn t
  | [.cell t _] => match sget ks.s.ss t with
    | .ptr k _ => getB ks.kh k
    | _ => false
  | _ => false

def callT {P : Program} {C : CT} (X : EnvT P C) (ex : FI P → List Nat → Code → KS → ResT) : CalT := fun f args kns H nk kh =>
  match findF f X.fis with
  | some fi => (ex fi [] fi.body ⟨⟨args ++ List.replicate (fi.fn.ntmps - args.length) .undef, H, nk⟩, kns, kh⟩).bind fun r => match r.1 with
    | .exit _ => .bad
    | _ => match resAV P r.2.s.ss r.2.s.H fi.fn.results.toList with
      | some v => .leaf ⟨v, resKn r.2 fi.fn.results.toList, r.2.s.H, r.2.s.nk, r.2.kh⟩
      | none => .bad
  | none => .bad

def findCL {P : Program} {C : CT} (f : Nat) (path : List Nat) : List (CLT P C) → Option (CLT P C)
  | [] => none
  | c :: l => match Nat.beq c.f f && natsEq c.path path with
    | true => some c
    | false => findCL f path l
theorem findCL_spec {P : Program} {C : CT} {f : Nat} {path : List Nat} : ∀ (l : List (CLT P C)) (c : CLT P C), findCL f path l = some c → c.f = f ∧ c.path = path
  | [], c, h => by simp [findCL] at h
  | d :: l, c, h => by
    simp only [findCL] at h
    split at h
    · rename_i hb
      simp only [Bool.and_eq_true] at hb
      simp at h; subst h
      exact ⟨Nat.eq_of_beq_eq_true hb.1, natsEq_eq _ _ hb.2⟩
    · exact findCL_spec l c h
/-- A slot's number told apart: ahead of the code at a path. -/
def findPin (f : Nat) (path : List Nat) : List (Nat × List Nat × Nat × List Int) → Option (Nat × List Int)
  | [] => none
  | (g, p, t, vs) :: l => match Nat.beq g f && natsEq p path with
    | true => some (t, vs)
    | false => findPin f path l
def splitT (k : Int → ResT) (n : Int) : List Int → ResT
  | [] => .bad
  | v :: vs => .ite (n == v) (k v) (splitT k n vs)
def pinT (pins : List (Nat × List Nat × Nat × List Int)) (f : Nat) (path : List Nat) (ks : KS) (k : KS → ResT) : ResT :=
  match findPin f path pins with
  | none => k ks
  | some (t, vs) => match sget ks.s.ss t with
    | .int kd n => splitT (fun v => k ⟨⟨sset ks.s.ss t (.int kd v), ks.s.H, ks.s.nk⟩, setB ks.kn t true, ks.kh⟩) n vs
    | _ => .bad
theorem splitT_holds {k : Int → ResT} {n : Int} {R : Ex × KS → Prop} : ∀ vs : List Int, (splitT k n vs).holds R → (k n).holds R
  | [], h => h.elim
  | v :: vs, h => by
    cases hb : (n == v) with
    | true => have e := eq_of_beq hb; subst e; exact h.1 hb
    | false => exact splitT_holds vs (h.2 hb)
theorem pinT_holds {pins : List (Nat × List Nat × Nat × List Int)} {f : Nat} {path : List Nat} {ks : KS} {k : KS → ResT} {R : Ex × KS → Prop} (h : (pinT pins f path ks k).holds R) : ∃ ks' : KS, ks'.s = ks.s ∧ (k ks').holds R := by
  unfold pinT at h
  split at h
  · exact ⟨ks, rfl, h⟩
  · rename_i t vs _
    split at h
    case h_2 => exact h.elim
    rename_i kd n ht
    refine ⟨_, ?_, splitT_holds vs h⟩
    simp only
    rw [← ht, sset_self]

def execStep0T {P : Program} {C : CT} (X : EnvT P C) (ex : FI P → List Nat → Code → KS → ResT) (m : Nat) (fi : FI P) (path : List Nat) (c : Code) (ks : KS) : ResT :=
    match c with
    | .skip => .leaf (.normal, ks)
    | .label _ => .leaf (.normal, ks)
    | .ret => .leaf (.ret, ks)
    | .exit id => .leaf (.exit id, ks)
    | .region _ ops draw => match draw with
      | true => match lastIn X.cs (fun f => (findF f X.fis).isSome) ops with
        | true => (drawnLT P X.cs (callT X ex) X.yl ops ks).map fun ks => (.normal, ks)
        | false => (drawnT P X.cs ops ks).map fun ks => (.normal, ks)
      | false => (runOpsT P X.cs (callT X ex) X.yl ops.toList ops.toList ks []).map fun ks => (.normal, ks)
    | .seq a b => (ex fi (0 :: path) a ks).bind fun r => match r.1 with
      | .normal => ex fi (1 :: path) b r.2
      | _ => .leaf r
    | .cond c a b => match evS ks.s.ss c with
      | .bool t => match knO ks c with
        | true => match t with
          | true => ex fi (0 :: path) a ks
          | false => ex fi (1 :: path) b ks
        | false => .ite t (ex fi (0 :: path) a ks) (ex fi (1 :: path) b ks)
      | _ => .bad
    | .block id a => (ex fi (0 :: path) a ks).bind fun r => match r.1 with
      | .exit id' => match Nat.beq id' id with
        | true => .leaf (.normal, r.2)
        | false => .leaf r
      | _ => .leaf r
    | .loop a => match findLT fi.f path X.lcs with
      | some lc => lc.g ks
      | none => loopT (fun ks => ex fi (0 :: path) a ks) m ks
    | .scope a => ex fi (0 :: path) a ks
    | _ => .bad

def execStepT {P : Program} {C : CT} (X : EnvT P C) (ex : FI P → List Nat → Code → KS → ResT) (m : Nat) (fi : FI P) (path : List Nat) (c : Code) (ks : KS) : ResT :=
  match findCL fi.f path X.cls with
  | some cl => cl.g ks
  | none => pinT X.pins fi.f path ks fun ks => execStep0T X ex m fi path c ks

def execT {P : Program} {C : CT} (X : EnvT P C) (n : Nat) : FI P → List Nat → Code → KS → ResT :=
  n.rec (fun _ _ _ _ => .bad) fun m ex => execStepT X ex m

theorem loopT_sound {c : Code} {body : KS → ResT} (hb : ∀ ks, CodeT P c ks.s (body ks) C) {r : Option Nat} : ∀ (n : Nat) (ks : KS) (ρ : Env) (B : Fr) (W : WD) (a : Act) (w : World) (Q : Exit → Act → World → Prop), C.p ρ B W.w → StS ρ ks.s B W a w →
    ((loopT body n ks).holds fun r => ∀ ρ' a' w', Env.le ρ ρ' → StS ρ' r.2.s B W a' w' → Q r.1.to a' w') → Code.roundsIn (FR r) 0 P c Q n a w
  | 0, ks, ρ, B, W, a, w, Q, _, _, h => h.elim
  | n + 1, ks, ρ, B, W, a, w, Q, hC, hst, h => by
    rw [roundsIn_succ]
    simp only [loopT] at h
    rw [T.holds_bind] at h
    refine hb ks r ρ B W a w _ hC hst (h.mono ?_)
    rintro ⟨e, ks'⟩ hr ρ' a' w' hle hst'
    cases e with
    | normal => exact loopT_sound hb n ks' ρ' B W a' w' Q (C.mono hC hle) hst' (T.holds.mono hr fun r h2 ρ2 a2 w2 h3 h4 => h2 ρ2 a2 w2 (hle.trans h3) h4)
    | exit id => exact hr ρ' a' w' hle hst'
    | ret => exact hr ρ' a' w' hle hst'

theorem callT_sound {X : EnvT P C} {ex : FI P → List Nat → Code → KS → ResT} (hex : ∀ (fi : FI P) path c ks, subC fi.body path = some c → CodeT P c ks.s (ex fi path c ks) C) : CalTOK P C (callT X ex) := by
  intro f args kns H nk kh ρ B W w xs R hC hrep hargs h
  unfold callT at h
  split at h
  case h_2 => exact h.elim
  rename_i fi hfi
  have hff := findF_spec _ _ hfi
  refine .inr ⟨by rw [← hff]; exact fi.hn _ _, ?_⟩
  rw [T.holds_bind] at h
  rw [← hff]
  refine calls_of_wp fi.hf fi.hb (wpIn_wide.1 <| hex fi [] fi.body _ rfl none ρ B ⟨W, []⟩ _ w _ hC ⟨?_, ?_, rfl, hrep⟩ (h.mono ?_))
  · have := RV1s_slots args xs (fi.fn.ntmps - args.length) hargs
    have hl := RV1s_length _ _ hargs
    have e1 : (xs ++ List.replicate (fi.fn.ntmps - args.length) undef).toArray = xs.toArray ++ Array.replicate (fi.fn.ntmps - xs.toArray.size) undef := by simp [hl]
    rw [e1] at this
    exact this
  · have hl := RV1s_length _ _ hargs
    simp [hl, St.rs]
  · rintro ⟨e, ks'⟩ hr ρ' a' w' hle hst
    have fin : (match resAV P ks'.s.ss ks'.s.H fi.fn.results.toList with
      | some v => (T.leaf ⟨v, resKn ks' fi.fn.results.toList, ks'.s.H, ks'.s.nk, ks'.kh⟩ : T CR)
      | none => .bad).holds (fun r => ∀ ρ' x w', Env.le ρ ρ' → RV ρ' r.v x → Rep ρ' r.H B W w' → R x w') → ∃ x, (results fi.fn a'.tmps).run P w' = .ok x w' ∧ R x w' := by
      intro h
      split at h
      case h_2 => exact h.elim
      rename_i v hv
      obtain ⟨x, hx, hxv⟩ := resAV_sound (fn := fi.fn) hst hv
      exact ⟨x, hx, h ρ' x w' hle hxv hst.rep⟩
    cases e with
    | normal => obtain ⟨x, h1, h2⟩ := fin hr; exact ⟨hst.df, x, h1, x, rfl, h2⟩
    | ret => obtain ⟨x, h1, h2⟩ := fin hr; exact ⟨hst.df, x, h1, x, rfl, h2⟩
    | exit id => exact (hr : False).elim

theorem execT_sound (hm : P.follows .mixedOrders = true) (X : EnvT P C) : ∀ (n : Nat) (fi : FI P) (path : List Nat) (c : Code) (ks : KS), subC fi.body path = some c → CodeT P c ks.s (execT X n fi path c ks) C
  | 0, _, _, _, _, _ => fun _ _ _ _ _ _ _ _ _ h => h.elim
  | n + 1, fi, path, c, ks0, hsub => by
    have ih := execT_sound hm X n
    have hcal : CalTOK P C (callT X (execT X n)) := callT_sound ih
    have child_sub : ∀ d b, child d c = some b → subC fi.body (d :: path) = some b := fun d b hd => by simp [subC, hsub, hd]
    intro r ρ B W ac w Q hC hst0 h
    have h : (execStepT X (execT X n) n fi path c ks0).holds fun r => ∀ ρ' a' w', Env.le ρ ρ' → StS ρ' r.2.s B W a' w' → Q r.1.to a' w' := h
    unfold execStepT at h
    split at h
    · rename_i cl hcl
      obtain ⟨l1, l2⟩ := findCL_spec _ _ hcl
      exact cl.ok fi c l1.symm (by rw [l2]; exact hsub) ks0 r ρ B W ac w Q hC hst0 h
    obtain ⟨ks, eks, h⟩ := pinT_holds h
    have hst : StS ρ ks.s B W ac w := by rw [eks]; exact hst0
    unfold execStep0T at h
    cases c with
    | skip => exact wpIn_skip (h ρ ac w (Env.le.refl ρ) hst)
    | label l => exact wpIn_label (h ρ ac w (Env.le.refl ρ) hst)
    | ret => exact wpIn_ret (h ρ ac w (Env.le.refl ρ) hst)
    | exit id => exact wpIn_exit (h ρ ac w (Env.le.refl ρ) hst)
    | region id ops draw =>
      cases draw with
      | true =>
        simp only at h
        split at h
        · simp only [T.holds_map] at h
          exact drawnLT_sound hm hcal X.yok hC hst h
        · simp only [T.holds_map] at h
          exact drawnT_sound hm hst h
      | false =>
        simp only [T.holds_map] at h
        exact regionT_sound hcal X.yok hC hst h
    | seq a b =>
      simp only at h
      rw [T.holds_bind] at h
      refine wpIn_seq (ih fi _ _ _ (child_sub 0 a rfl) r ρ B W ac w _ hC hst (h.mono ?_))
      rintro ⟨e, ks'⟩ hr ρ' a' w' hle hst'
      cases e with
      | normal => exact ih fi _ _ _ (child_sub 1 b rfl) r ρ' B W a' w' Q (C.mono hC hle) hst' (T.holds.mono hr fun r h2 ρ2 a2 w2 h3 h4 => h2 ρ2 a2 w2 (hle.trans h3) h4)
      | exit id => exact hr ρ' a' w' hle hst'
      | ret => exact hr ρ' a' w' hle hst'
    | cond c a b =>
      simp only at h
      have hv := evS_RV hst.sl c
      split at h
      case h_2 => exact h.elim
      rename_i t ht
      have ht : evS ks.s.rs.1 c = .bool t := ht
      rw [ht] at hv
      refine wpIn_cond (RV_bool hv) ?_
      split at h
      · cases t with
        | true => exact ih fi _ _ _ (child_sub 0 a rfl) r ρ B W ac w Q hC hst h
        | false => exact ih fi _ _ _ (child_sub 1 b rfl) r ρ B W ac w Q hC hst h
      · cases t with
        | true => exact ih fi _ _ _ (child_sub 0 a rfl) r ρ B W ac w Q hC hst (h.1 rfl)
        | false => exact ih fi _ _ _ (child_sub 1 b rfl) r ρ B W ac w Q hC hst (h.2 rfl)
    | block id a =>
      simp only at h
      rw [T.holds_bind] at h
      refine wpIn_block (ih fi _ _ _ (child_sub 0 a rfl) r ρ B W ac w _ hC hst (h.mono ?_))
      rintro ⟨e, ks'⟩ hr ρ' a' w' hle hst'
      cases e with
      | normal => exact hr ρ' a' w' hle hst'
      | exit id' =>
        simp only [Ex.to, Exit.inBlock]
        simp only at hr
        split at hr
        · rename_i hb
          rw [if_pos (Nat.eq_of_beq_eq_true hb)]
          exact hr ρ' a' w' hle hst'
        · rename_i hb
          rw [if_neg (fun e => by subst e; simp at hb)]
          exact hr ρ' a' w' hle hst'
      | ret => exact hr ρ' a' w' hle hst'
    | loop a =>
      simp only at h
      split at h
      · rename_i lc hlc
        obtain ⟨l1, l2⟩ := findLT_spec _ _ hlc
        exact lc.ok fi a l1.symm (by rw [l2]; exact hsub) ks r ρ B W ac w Q hC hst h
      · exact wpIn_loop_rounds n (loopT_sound (c := a) (fun ks => ih fi _ _ _ (child_sub 0 a rfl)) n ks ρ B W ac w Q hC hst h)
    | scope a =>
      simp only at h
      refine wpIn_scope_straight (ih fi _ _ _ (child_sub 0 a rfl) r ρ B W ac w _ hC hst (h.mono ?_))
      rintro ⟨e, ks'⟩ hr ρ' a' w' hle hst'
      cases e with
      | normal => exact hr ρ' a' w' hle hst'
      | exit id => exact hr ρ' a' w' hle hst'
      | ret => exact hr ρ' a' w' hle hst'
    | _ => exact h.elim

/-- A contract out of a branching run. -/
theorem Pure.by_tree (hm : P.follows .mixedOrders = true) (X : EnvT P) (n f : Nat) (args : List AV) {t : T AV} {v' : AV} (h : (callT X (execT X n) f args [] [] 0 []).map CR.v = t) (ht : t.holds fun v => SameR v v') : Pure P f args v' := by
  intro xs w hx
  refine callT_sound (X := X) (execT_sound hm X n) f args [] [] 0 [] ρ0 (· < w.heap.size) w w xs _ trivial (Rep.start w) hx ?_
  rw [← h, T.holds_map] at ht
  refine ht.mono fun r hr ρ' x w' _ h2 h3 => ⟨hr ρ' x h2, h3.below.below⟩
end
end Go.Proofs.Ytglcjmnkhmdlhaa

/- Loops of a branching run, by an invariant. -/
namespace Go.Proofs.Ytglcjmnkhmdlhaa
open Go Go.RowKit

theorem loop_sub' {P : Program} {gi : FI P} {path : List Nat} {c : Code} (h : subC gi.body path = some (.loop c)) : subC gi.body path = some (.loop (loopAt gi path)) := by
  unfold loopAt; rw [h]

section
variable {P : Program} {C : CT}

/-- One round, and what is kept of it. -/
def stepT (X : EnvT P C) (n : Nat) (gi : FI P) (path : List Nat) (keep : List Nat) (m : Nat) (kn kh : List Bool) (ks : KS) : T (Ex × KS) :=
  (execT X n gi (0 :: path) (loopAt gi path) ks).bind fun r => match belowSt m (forget keep m r.2.s) with
    | true => .leaf (r.1, ⟨forget keep m r.2.s, kn, kh⟩)
    | false => .bad

/-- The code, from 's', comes to what 'R' says. -/
def CodeR (P : Program) (c : Code) (s : St) (R : Ex → St → Prop) (C : CT := CT.none) : Prop :=
  ∀ (r : Option Nat) (ρ : Env) (B : Fr) (W : WD) (a : Act) (w : World) (Q : Exit → Act → World → Prop), C.p ρ B W.w → StS ρ s B W a w →
    (∀ e s', R e s' → ∀ ρ' a' w', Env.le ρ ρ' → StS ρ' s' B W a' w' → Q e.to a' w') → c.wpIn (FR r) 0 P Q a w

theorem CodeR.of_sim {c : Code} {s s' : St} {R : Ex → St → Prop} (h : CodeR P c s' R C) (hs : Sim s s') : CodeR P c s R C :=
  fun r ρ B W a w Q hC hst hq => h r ρ B W a w Q hC (hs _ _ _ _ _ hst) hq

theorem CodeR.mono {c : Code} {s : St} {R R' : Ex → St → Prop} (h : CodeR P c s R C) (hr : ∀ e s', R e s' → R' e s') : CodeR P c s R' C :=
  fun r ρ B W a w Q hC hst hq => h r ρ B W a w Q hC hst fun e s' hR => hq e s' (hr e s' hR)

/-- What a round has to show: it leads on, with less to do, or it leaves as 'R' says. -/
def Round {σ : Type} (st : σ → KS) (Inv : σ → Prop) (μ : σ → Nat) (R : Ex → St → Prop) (v : σ) (r : Ex × KS) : Prop :=
  match r.1 with
  | .normal => ∃ v', Inv v' ∧ μ v' < μ v ∧ Sim r.2.s (st v').s
  | e => R e r.2.s

theorem loop_rule (hm : P.follows .mixedOrders = true) {σ : Type} (gi : FI P) (path : List Nat) (keep : List Nat) (m : Nat) (kn kh : List Bool) (st : σ → KS) (n : Nat) (Inv : σ → Prop) (μ : σ → Nat) (R : Ex → St → Prop)
    (hsub : subC gi.body path = some (.loop (loopAt gi path))) (hH : ∀ v, (st v).s.H.length ≤ m)
    (hstep : ∀ v, Inv v → ∃ X : EnvT P C, (stepT X n gi path keep m kn kh (st v)).holds (Round st Inv μ R v)) (v0 : σ) (h0 : Inv v0) : CodeR P (.loop (loopAt gi path)) (st v0).s R C := by
  have hsub2 : subC gi.body (0 :: path) = some (loopAt gi path) := by simp [subC, hsub, child]
  intro r ρ B W a w Q hC hst0 hq
  refine wpIn_loop_rounds (μ v0 + 1) ?_
  have key : ∀ d v (ρ : Env) (a : Act) (w : World), C.p ρ B W.w → μ v < d → Inv v → StS ρ (st v).s B W a w → (∀ e s', R e s' → ∀ ρ' a' w', Env.le ρ ρ' → StS ρ' s' B W a' w' → Q e.to a' w') → Code.roundsIn (FR r) 0 P (loopAt gi path) Q d a w := by
    intro d
    induction d with
    | zero => intro v ρ a w _ hμ; omega
    | succ d ih =>
      intro v ρ a w hC hμ hi hst hq
      obtain ⟨X, hh⟩ := hstep v hi
      unfold stepT at hh
      rw [T.holds_bind] at hh
      rw [roundsIn_succ]
      refine execT_sound hm X n gi _ _ (st v) hsub2 r ρ B W a w _ hC hst (hh.mono ?_)
      rintro ⟨e, ks'⟩ hr ρ' a' w' hle hst'
      simp only at hr
      split at hr
      case h_2 => exact hr.elim
      rename_i hb
      have hst2 := forget_sound (keep := keep) (m := m) hb hst'
      have hle2 : Env.le ρ (cutE m ρ') := by
        intro k b hk
        have hkm : k < m := by
          rcases Nat.lt_or_ge k m with h | h
          · exact h
          · have hn := hst.rep.dom k (hget_long (m := m) _ k (Nat.le_trans (hH v) h))
            rw [hk] at hn; simp at hn
        unfold cutE
        rw [if_pos hkm]
        exact hle k b hk
      cases e with
      | normal =>
        obtain ⟨v', h1, h2, h3⟩ : ∃ v', Inv v' ∧ μ v' < μ v ∧ Sim (forget keep m ks'.s) (st v').s := hr
        exact ih v' (cutE m ρ') a' w' (C.mono hC hle2) (by omega) h1 (h3 _ _ _ _ _ hst2) fun e s' hR ρ2 a2 w2 hle3 hst3 => hq e s' hR ρ2 a2 w2 (hle2.trans hle3) hst3
      | exit id => exact hq _ _ hr (cutE m ρ') a' w' hle2 hst2
      | ret => exact hq _ _ hr (cutE m ρ') a' w' hle2 hst2
  exact key (μ v0 + 1) v0 ρ a w hC (Nat.lt_succ_self _) h0 hst0 hq

/-- A loop's law, where it leaves to one state alone: of what the entry's state tells by 'ext'. -/
def LCT.fam {σ : Type} (gi : FI P) (path : List Nat) (ext : KS → Option σ) (st : σ → St) (pre : σ → Bool) (e : Ex) (sf : σ → KS) (hsub : subC gi.body path = some (.loop (loopAt gi path)))
    (ok : ∀ v, pre v = true → CodeR P (.loop (loopAt gi path)) (st v) (fun e' s' => e' = e ∧ s' = (sf v).s) C) : LCT P C where
  f := gi.f
  path := path
  g := fun ks => match ext ks with
    | some v => match fitSt (st v) ks.s with
      | some ob => .needs ob (.need (pre v) (.leaf (e, sf v)))
      | none => .bad
    | none => .bad
  ok := by
    intro fi body hf hs ks
    have hfi := FI.ext' hf
    subst hfi
    intro r ρ B W a w Q hC hst h
    split at h
    case h_2 => exact h.elim
    rename_i v hv
    split at h
    case h_2 => exact h.elim
    rename_i ob hft
    rw [T.holds_needs] at h
    obtain ⟨h1, h2, h3⟩ := h
    rw [hsub] at hs
    simp at hs; subst hs
    refine ok v h2 r ρ B W a w Q hC (fitSt_sound hft h1 hst) ?_
    rintro e' s' ⟨rfl, rfl⟩
    exact h3

/-- The same for one entry's state. -/
def LCT.one (gi : FI P) (path : List Nat) (s0 : St) (e : Ex) (sf : KS) (hsub : subC gi.body path = some (.loop (loopAt gi path)))
    (ok : CodeR P (.loop (loopAt gi path)) s0 (fun e' s' => e' = e ∧ s' = sf.s) C) : LCT P C :=
  LCT.fam (σ := Unit) gi path (fun _ => some ()) (fun _ => s0) (fun _ => true) e (fun _ => sf) hsub (fun _ _ => ok)

/-- A loop that is not come to. -/
def LCT.bad (f : Nat) (path : List Nat) : LCT P C := { f := f, path := path, g := fun _ => .bad, ok := fun _ _ _ _ _ _ _ _ _ _ _ _ _ _ h => h.elim }

/-- For looking alone: a loop that is not gone through. -/
def dbgT (f : Nat) (path : List Nat) (ok : ∀ (fi : FI P) (body : Code), fi.f = f → subC fi.body path = some (.loop body) → ∀ ks, CodeT P (.loop body) ks.s (.leaf (.exit 999, ks)) C) : LCT P C := { f := f, path := path, g := fun ks => .leaf (.exit 999, ks), ok := ok }
end

/-! ### Slots by their numbers -/
def pat' : List (Nat × AV) → Nat → Nat → List AV
  | _, _, 0 => []
  | [], i, n + 1 => .any :: pat' [] (i + 1) n
  | (j, v) :: l, i, n + 1 => match Nat.beq i j with
    | true => v :: pat' l (i + 1) n
    | false => .any :: pat' ((j, v) :: l) (i + 1) n
def kpat : List Nat → Nat → Nat → List Bool
  | _, _, 0 => []
  | [], i, n + 1 => false :: kpat [] (i + 1) n
  | j :: l, i, n + 1 => match Nat.beq i j with
    | true => true :: kpat l (i + 1) n
    | false => false :: kpat (j :: l) (i + 1) n

/-! ### For looking: which slots a code reads -/
def opndT : Operand → List Nat
  | .tmp t => [t]
  | _ => []
def operT (o : Oper) : List Nat := (o.op.operands.toList.map opndT).flatten
def readsC : Code → List Nat
  | .region _ ops _ => (ops.toList.map operT).flatten
  | .seq a b => readsC a ++ readsC b
  | .cond c a b => opndT c ++ (readsC a ++ readsC b)
  | .block _ a => readsC a
  | .loop a => readsC a
  | .rangeFunc f _ a b => opndT f ++ (readsC a ++ readsC b)
  | .scope a => readsC a
  | _ => []
/-- The codes that may run behind the path's one (the path's loops among them, whole). -/
def behindC (root : Code) : List Nat → List Nat
  | [] => []
  | d :: p => match subC root p with
    | some (.seq _ b) => (match d with
      | 0 => readsC b
      | _ => []) ++ behindC root p
    | some (.loop a) => readsC a ++ behindC root p
    | _ => behindC root p
def resT : List ResultVar → List Nat
  | [] => []
  | .tmp t :: l => t :: resT l
  | .cell t _ :: l => t :: resT l
def liveAt {P : Program} (gi : FI P) (path : List Nat) : List Nat := readsC (loopAt gi path) ++ (behindC gi.body path ++ resT gi.fn.results.toList)
def loopPaths : Code → List Nat → List (List Nat)
  | .seq a b, p => loopPaths a (0 :: p) ++ loopPaths b (1 :: p)
  | .cond _ a b, p => loopPaths a (0 :: p) ++ loopPaths b (1 :: p)
  | .block _ a, p => loopPaths a (0 :: p)
  | .scope a, p => loopPaths a (0 :: p)
  | .loop a, p => p :: loopPaths a (0 :: p)
  | _, _ => []
end Go.Proofs.Ytglcjmnkhmdlhaa

/- Contracts of functions that write the block of a pointer that they are handed. -/
namespace Go.Proofs.Ytglcjmnkhmdlhaa
open Go Go.RowKit

section
variable {P : Program}

theorem Rep.block' {b T : Nat} {x : AV} {cs : List Value} {w : World} (h : w.heap[b]? = some (.cells cs.toArray T (0, 0))) (hx : RC (ρ1 b) x cs) : Rep (ρ1 b) [some ⟨T, x, true⟩] (fun i => i < w.heap.size ∧ i ≠ b) w w := by
  refine ⟨Keep.refl _ _, fun _ h => h.1, ?_, ?_, ?_⟩
  · intro j y hj
    cases j with
    | zero =>
      simp [hget] at hj; subst hj
      exact ⟨b, cs, (0, 0), by simp [ρ1], h, hx, fun _ => ⟨fun hh => hh.2 rfl, rfl⟩⟩
    | succ j => simp [hget] at hj
  · intro j j' c hj hj'
    unfold ρ1 at hj hj'
    split at hj <;> split at hj' <;> simp_all
  · intro j hj
    cases j with
    | zero => simp [hget] at hj
    | succ j => simp [ρ1]

/-- The call comes to 'v'; the block 'x' of its first argument, a pointer, comes to 'y'. -/
def PureW (P : Program) (f : Nat) (args : List AV) (T : Nat) (x v y : AV) : Prop :=
  ∀ (b : Nat) (xs : List Value) (w : World) (cs : List Value), w.heap[b]? = some (.cells cs.toArray T (0, 0)) → RC ρ0 x cs → RV1s (ρ1 b) (.ptr 0 [] :: args) xs →
    CallOK P f xs.toArray w fun r w' => RV ρ0 v r ∧ Keep (fun i => i < w.heap.size ∧ i ≠ b) w w' ∧ ∃ cs' : List Value, w'.heap[b]? = some (.cells cs'.toArray T (0, 0)) ∧ RC ρ0 y cs'

def SameB (T : Nat) (y : AV) (H : Heap) : Prop := ∃ z, hget H 0 = some ⟨T, z, true⟩ ∧ ∀ ρ cs, RC ρ z cs → RC ρ0 y cs

theorem PureW.by_tree (hm : P.follows .mixedOrders = true) (X : EnvT P) (n f : Nat) (args : List AV) (Ty : Nat) (x : AV) {t : T (AV × Heap)} {v y : AV}
    (h : (callT X (execT X n) f (.ptr 0 [] :: args) [] [some ⟨Ty, x, true⟩] 1 []).map (fun r => (r.v, r.H)) = t) (ht : t.holds fun r => SameR r.1 v ∧ SameB Ty y r.2) : PureW P f args Ty x v y := by
  intro b xs w cs hb hx ha
  have hx1 : RC (ρ1 b) x cs := RC.mono (fun k b hb => by simp [ρ0] at hb) _ _ hx
  refine callT_sound (X := X) (execT_sound hm X n) f _ [] _ 1 [] (ρ1 b) _ w w xs _ trivial (Rep.block' hb hx1) ha ?_
  rw [← h, T.holds_map] at ht
  refine ht.mono fun r hr ρ' z w' hle h2 h3 => ⟨hr.1 ρ' z h2, h3.below, ?_⟩
  obtain ⟨u, hu, hsame⟩ := hr.2
  obtain ⟨b', cs', mk, e1, e2, e3, e4⟩ := h3.blk 0 _ hu
  have e5 : ρ' 0 = some b := hle 0 b (by simp [ρ1])
  rw [e5] at e1
  simp at e1; subst e1
  obtain ⟨_, rfl⟩ := e4 rfl
  exact ⟨cs', e2, hsame ρ' cs' e3⟩

/-- A contract that reads and writes the block of its first argument, a pointer. -/
def Ctr.ofW (f T : Nat) (g : AV → List AV → Option (List Bool × AV × AV)) (ok : ∀ x args ob v y, g x args = some (ob, v, y) → (∀ b ∈ ob, b = true) → PureW P f args T x v y) : Ctr P where
  f := f
  g := fun args lk => match args with
    | .ptr k p :: rest => match isNil p, lk k with
      | true, some b => match Nat.beq b.t T && b.own, norm b.v, normL rest with
        | true, some (o1, x), some (o2, rest') => (g x rest').map fun r => { v := r.2.1, ob := o1 ++ (o2 ++ r.1), rd := [k], wr := some (k, ⟨T, r.2.2, true⟩) }
        | _, _, _ => none
      | _, _ => none
    | _ => none
  loc := by
    intro args lk lk' E h hk
    (try simp only at h ⊢)
    split at h <;> try contradiction
    rename_i k p rest
    split at h <;> try contradiction
    rename_i b hp hb
    split at h <;> try contradiction
    rename_i o1 x o2 rest' h1 h2 h3
    cases hg : g x rest' with
    | none => simp [hg] at h
    | some r =>
      simp [hg] at h; subst h
      have : lk' k = lk k := hk k (by simp)
      simp only [this, hb, hp, h1, h2, h3, hg, Option.map_some]
  ok := by
    intro ρ H B W w args xs E h hob hr ha
    (try simp only at h)
    split at h <;> try contradiction
    rename_i k p rest
    split at h <;> try contradiction
    rename_i b hp hb
    have hp := isNil_nil hp
    subst hp
    split at h <;> try contradiction
    rename_i o1 x o2 rest' h1 h2 h3
    cases hg : g x rest' with
    | none => simp [hg] at h
    | some r =>
      simp [hg] at h; subst h
      simp only [Bool.and_eq_true] at h1
      obtain ⟨bb, cs, mk, e1, e2, e3, e4⟩ := hr.blk k b hb
      obtain ⟨hnB, rfl⟩ := e4 h1.2
      have hx := norm_RC b.v cs o1 x e3 h2 (fun q hq => hob q (by simp [hq]))
      simp only [RV1s] at ha
      obtain ⟨y, ys, a1, a2, rfl⟩ := ha
      have a2' := normL_RV1s rest ys o2 rest' a2 h3 (fun q hq => hob q (by simp [hq]))
      have a1' : RV1 (ρ1 bb) (.ptr 0 []) y := by
        simp only [RV1, RC] at a1 ⊢
        obtain ⟨b2, q1, q2⟩ := a1
        rw [e1] at q1
        simp at q1; subst q1
        exact ⟨bb, by simp [ρ1], q2⟩
      have hall : RV1s (ρ1 bb) (.ptr 0 [] :: rest') (y :: ys) := by
        simp only [RV1s]
        exact ⟨y, ys, a1', RV1s.mono (fun k b hb => by simp [ρ0] at hb) _ _ a2', rfl⟩
      have hT := Nat.eq_of_beq_eq_true h1.1
      rw [hT] at e2
      refine (ok x rest' r.1 r.2.1 r.2.2 hg (fun q hq => hob q (by simp [hq])) bb (y :: ys) w cs e2 hx hall).mono ?_
      rintro z w' ⟨g1, g2, cs', g3, g4⟩
      refine ⟨ρ, Env.le.refl ρ, g1.ofρ0 ρ, ?_⟩
      refine ⟨hr.below.trans (g2.mono fun i hi => ⟨Nat.lt_of_lt_of_le (hr.bnd i hi) hr.below.size, fun e => hnB (e ▸ hi)⟩), hr.bnd, ?_, hr.inj, ?_⟩
      · intro j u hj
        simp only [Eff.app, hget_hset] at hj
        split at hj
        · rename_i e; subst e
          simp at hj; subst hj
          exact ⟨bb, cs', (0, 0), e1, g3, RC.mono (fun k b hb => by simp [ρ0] at hb) _ _ g4, fun _ => ⟨hnB, rfl⟩⟩
        · rename_i e
          obtain ⟨b2, cs2, mk2, q1, q2, q3, q4⟩ := hr.blk j u hj
          refine ⟨b2, cs2, mk2, q1, ?_, q3, q4⟩
          rw [g2.block b2 ⟨heap_lt q2, fun e2 => e (hr.inj j k bb (e2 ▸ q1) e1)⟩]
          exact q2
      · intro j hj
        simp only [Eff.app, hget_hset] at hj
        split at hj
        · simp at hj
        · exact hr.dom j hj
end
theorem SameB.ints {T : Nat} {k : IntKind} {n : Nat} {l m : List Int} {H : Heap} (h : hget H 0 = some ⟨T, .ints k n l, true⟩) (e : l = m) : SameB T (.ints k n m) H := ⟨_, h, fun _ _ hc => by subst e; simpa only [RC] using hc⟩
theorem SameR.tup0 : SameR (.tup []) (.tup []) := by
  intro ρ x hx
  simp only [RV, RV1s] at hx ⊢
  exact hx
end Go.Proofs.Ytglcjmnkhmdlhaa

/- Contracts of functions that read some blocks of memory, and write none. -/
namespace Go.Proofs.Ytglcjmnkhmdlhaa
open Go Go.RowKit
/-- Where a key stands among the keys. -/
def idxK (k : Nat) : List Nat → Nat → Option Nat
  | [], _ => none
  | j :: l, i => match Nat.beq j k with
    | true => some i
    | false => idxK k l (i + 1)
theorem idxK_some {k : Nat} : ∀ (l : List Nat) (i j : Nat), idxK k l i = some j → ∃ q, j = i + q ∧ l[q]? = some k
  | [], i, j, h => by simp [idxK] at h
  | a :: l, i, j, h => by
    simp only [idxK] at h
    split at h
    · rename_i hb
      simp at h
      exact ⟨0, by omega, by simp [Nat.eq_of_beq_eq_true hb]⟩
    · obtain ⟨q, h1, h2⟩ := idxK_some l (i + 1) j h
      exact ⟨q + 1, by omega, by simpa using h2⟩
theorem idxK_none {k : Nat} : ∀ (l : List Nat) (i : Nat), idxK k l i = none → k ∉ l
  | [], i, _ => by simp
  | a :: l, i, h => by
    simp only [idxK] at h
    split at h
    · simp at h
    · rename_i hb
      have := idxK_none l (i + 1) h
      simp only [List.mem_cons, not_or]
      refine ⟨fun e => ?_, this⟩
      subst e
      simp at hb
/-- A key's number; a new one stands last. -/
def numK (keys : List Nat) (k : Nat) : List Nat × Nat :=
  match idxK k keys 0 with
  | some i => (keys, i)
  | none => (keys ++ [k], keys.length)
theorem numK_spec {keys : List Nat} (k : Nat) (hn : keys.Nodup) : (∃ l, (numK keys k).1 = keys ++ l) ∧ (numK keys k).1[(numK keys k).2]? = some k ∧ (numK keys k).1.Nodup := by
  unfold numK
  cases h : idxK k keys 0 with
  | some i =>
    obtain ⟨q, h1, h2⟩ := idxK_some _ _ _ h
    have : i = q := by omega
    subst this
    exact ⟨⟨[], by simp⟩, h2, hn⟩
  | none =>
    have := idxK_none _ _ h
    refine ⟨⟨[k], rfl⟩, by simp, ?_⟩
    rw [List.nodup_append]
    refine ⟨hn, by simp, ?_⟩
    intro a ha b hb
    simp at hb; subst hb
    exact fun e => this (e ▸ ha)
/-- An argument, its place told by the number of its key. -/
def renArg0 (keys : List Nat) (v : AV) : Option (List Bool × List Nat × AV) :=
  match v with
  | .ptr k p => some ([], (numK keys k).1, .ptr (numK keys k).2 p)
  | .sl k p n c => some ([], (numK keys k).1, .sl (numK keys k).2 p n c)
  | v => (norm v).map fun r => (r.1, keys, r.2)
def renArgs0 : List Nat → List AV → Option (List Bool × List Nat × List AV)
  | keys, [] => some ([], keys, [])
  | keys, v :: l => match renArg0 keys v with
    | some (o1, keys', v') => (renArgs0 keys' l).map fun r => (o1 ++ r.1, r.2.1, v' :: r.2.2)
    | none => none
def envK (ρ : Env) (keys : List Nat) : Env := fun i => (keys[i]?).bind ρ
theorem envK_le {ρ : Env} {keys l : List Nat} : Env.le (envK ρ keys) (envK ρ (keys ++ l)) := by
  intro i b h
  simp only [envK] at h ⊢
  cases hk : keys[i]? with
  | none => simp [hk] at h
  | some k =>
    simp [hk] at h
    have : i < keys.length := by
      rcases Nat.lt_or_ge i keys.length with h' | h'
      · exact h'
      · simp [List.getElem?_eq_none h'] at hk
    rw [List.getElem?_append_left this, hk]
    simpa using h
theorem renArg0_spec {ρ : Env} {keys keys' : List Nat} {v v' : AV} {ob : List Bool} {x : Value} (h : renArg0 keys v = some (ob, keys', v')) (hob : ∀ b ∈ ob, b = true) (hn : keys.Nodup) (hv : RV1 ρ v x) :
    (∃ l, keys' = keys ++ l) ∧ keys'.Nodup ∧ RV1 (envK ρ keys') v' x := by
  unfold renArg0 at h
  split at h
  · rename_i k p
    simp at h; obtain ⟨rfl, rfl, rfl⟩ := h
    obtain ⟨h1, h2, h3⟩ := numK_spec (keys := keys) k hn
    refine ⟨h1, h3, ?_⟩
    simp only [RV1, RC] at hv ⊢
    obtain ⟨b, hb, e⟩ := hv
    exact ⟨b, by simp [envK, h2, hb], e⟩
  · rename_i k p n c
    simp at h; obtain ⟨rfl, rfl, rfl⟩ := h
    obtain ⟨h1, h2, h3⟩ := numK_spec (keys := keys) k hn
    refine ⟨h1, h3, ?_⟩
    simp only [RV1, RC] at hv ⊢
    obtain ⟨b, hb, e⟩ := hv
    exact ⟨b, by simp [envK, h2, hb], e⟩
  · cases hr : norm v with
    | none => simp [hr] at h
    | some r =>
      simp [hr] at h; obtain ⟨rfl, rfl, rfl⟩ := h
      exact ⟨⟨[], by simp⟩, hn, RV1.mono (fun k b hb => by simp [ρ0] at hb) (norm_RV1 hv hr hob)⟩
theorem renArgs0_spec {ρ : Env} : ∀ (l : List AV) (keys keys' : List Nat) (l' : List AV) (ob : List Bool) (xs : List Value), renArgs0 keys l = some (ob, keys', l') → (∀ b ∈ ob, b = true) → keys.Nodup → RV1s ρ l xs →
    (∃ m, keys' = keys ++ m) ∧ keys'.Nodup ∧ RV1s (envK ρ keys') l' xs
  | [], keys, keys', l', ob, xs, h, _, hn, hv => by
    simp [renArgs0] at h; obtain ⟨rfl, rfl, rfl⟩ := h
    exact ⟨⟨[], by simp⟩, hn, by simpa only [RV1s] using hv⟩
  | v :: l, keys, keys', l', ob, xs, h, hob, hn, hv => by
    simp only [renArgs0] at h
    split at h <;> try contradiction
    rename_i o1 keys1 v1 h1
    cases hr : renArgs0 keys1 l with
    | none => simp [hr] at h
    | some r =>
      obtain ⟨o2, k2, l2⟩ := r
      simp [hr] at h; obtain ⟨rfl, rfl, rfl⟩ := h
      simp only [RV1s] at hv
      obtain ⟨x, ys, hx, hys, rfl⟩ := hv
      obtain ⟨⟨m1, e1⟩, n1, r1⟩ := renArg0_spec (ρ := ρ) h1 (fun b hb => hob b (by simp [hb])) hn hx
      obtain ⟨⟨m2, e2⟩, n2, r2⟩ := renArgs0_spec l keys1 k2 l2 o2 ys hr (fun b hb => hob b (by simp [hb])) n1 hys
      refine ⟨⟨m1 ++ m2, by rw [e2, e1]; simp⟩, n2, ?_⟩
      simp only [RV1s]
      refine ⟨x, ys, ?_, r2, rfl⟩
      rw [e2]
      exact r1.mono envK_le
theorem RCs_of_RV1s {ρ : Env} : ∀ (l : List AV) (xs : List Value), l.all AV.one = true → RV1s ρ l xs → RCs ρ l xs
  | [], xs, _, h => by simpa only [RCs, RV1s] using h
  | v :: l, xs, ha, h => by
    simp only [List.all_cons, Bool.and_eq_true] at ha
    simp only [RV1s] at h
    obtain ⟨x, ys, h1, h2, rfl⟩ := h
    simp only [RCs]
    refine ⟨[x], ys, ?_, RCs_of_RV1s l ys ha.2 h2, rfl⟩
    cases v <;> simp only [AV.one] at ha <;> first | exact h1 | exact absurd ha.1 (by decide)
/-- The same, with what a closure bears. -/
def renArg (keys : List Nat) (v : AV) : Option (List Bool × List Nat × AV) :=
  match v with
  | .fn f cap => match cap.all AV.one, renArgs0 keys cap with
    | true, some (o, keys', cap') => match cap'.all AV.one with
      | true => some (o, keys', .fn f cap')
      | false => none
    | _, _ => none
  | v => renArg0 keys v
theorem renArg_spec {ρ : Env} {keys keys' : List Nat} {v v' : AV} {ob : List Bool} {x : Value} (h : renArg keys v = some (ob, keys', v')) (hob : ∀ b ∈ ob, b = true) (hn : keys.Nodup) (hv : RV1 ρ v x) :
    (∃ l, keys' = keys ++ l) ∧ keys'.Nodup ∧ RV1 (envK ρ keys') v' x := by
  unfold renArg at h
  split at h
  · rename_i f cap
    split at h <;> try contradiction
    rename_i o keys1 cap1 h1 h2
    split at h <;> try contradiction
    rename_i h3
    simp at h; obtain ⟨rfl, rfl, rfl⟩ := h
    simp only [RV1, RC] at hv
    obtain ⟨xs, hx, e⟩ := hv
    obtain ⟨a1, a2, a3⟩ := renArgs0_spec (ρ := ρ) cap keys keys1 cap1 o xs h2 hob hn (RV1s_of_RCs cap xs h1 hx)
    refine ⟨a1, a2, ?_⟩
    simp only [RV1, RC]
    exact ⟨xs, RCs_of_RV1s cap1 xs h3 a3, e⟩
  · exact renArg0_spec h hob hn hv
def renArgs : List Nat → List AV → Option (List Bool × List Nat × List AV)
  | keys, [] => some ([], keys, [])
  | keys, v :: l => match renArg keys v with
    | some (o1, keys', v') => (renArgs keys' l).map fun r => (o1 ++ r.1, r.2.1, v' :: r.2.2)
    | none => none
theorem renArgs_spec {ρ : Env} : ∀ (l : List AV) (keys keys' : List Nat) (l' : List AV) (ob : List Bool) (xs : List Value), renArgs keys l = some (ob, keys', l') → (∀ b ∈ ob, b = true) → keys.Nodup → RV1s ρ l xs →
    (∃ m, keys' = keys ++ m) ∧ keys'.Nodup ∧ RV1s (envK ρ keys') l' xs
  | [], keys, keys', l', ob, xs, h, _, hn, hv => by
    simp [renArgs] at h; obtain ⟨rfl, rfl, rfl⟩ := h
    exact ⟨⟨[], by simp⟩, hn, by simpa only [RV1s] using hv⟩
  | v :: l, keys, keys', l', ob, xs, h, hob, hn, hv => by
    simp only [renArgs] at h
    split at h <;> try contradiction
    rename_i o1 keys1 v1 h1
    cases hr : renArgs keys1 l with
    | none => simp [hr] at h
    | some r =>
      obtain ⟨o2, k2, l2⟩ := r
      simp [hr] at h; obtain ⟨rfl, rfl, rfl⟩ := h
      simp only [RV1s] at hv
      obtain ⟨x, ys, hx, hys, rfl⟩ := hv
      obtain ⟨⟨m1, e1⟩, n1, r1⟩ := renArg_spec (ρ := ρ) h1 (fun b hb => hob b (by simp [hb])) hn hx
      obtain ⟨⟨m2, e2⟩, n2, r2⟩ := renArgs_spec l keys1 k2 l2 o2 ys hr (fun b hb => hob b (by simp [hb])) n1 hys
      refine ⟨⟨m1 ++ m2, by rw [e2, e1]; simp⟩, n2, ?_⟩
      simp only [RV1s]
      refine ⟨x, ys, ?_, r2, rfl⟩
      rw [e2]
      exact r1.mono envK_le
/-- The blocks of keys, without places. -/
def blksK (lk : Nat → Option Blk) : List Nat → Option (List Bool × List (Nat × AV))
  | [] => some ([], [])
  | k :: l => match lk k with
    | some b => match norm b.v with
      | some (o1, x) => (blksK lk l).map fun r => (o1 ++ r.1, (b.t, x) :: r.2)
      | none => none
    | none => none
def heapK (l : List (Nat × AV)) : Heap := l.map fun b => some ⟨b.1, b.2, false⟩
theorem hget_map (l : List (Nat × AV)) : ∀ i, hget (heapK l) i = (l[i]?).map fun b => ⟨b.1, b.2, false⟩ := by
  induction l with
  | nil => intro i; cases i <;> rfl
  | cons a l ih =>
    intro i
    cases i with
    | zero => rfl
    | succ i => simpa [heapK, hget] using ih i
theorem blksK_get {lk : Nat → Option Blk} : ∀ (keys : List Nat) (ob : List Bool) (bs : List (Nat × AV)), blksK lk keys = some (ob, bs) → (∀ b ∈ ob, b = true) → bs.length = keys.length ∧
    ∀ (i : Nat) (c : Nat × AV), bs[i]? = some c → ∃ k b o, keys[i]? = some k ∧ lk k = some b ∧ b.t = c.1 ∧ norm b.v = some (o, c.2) ∧ (∀ q ∈ o, q = true)
  | [], ob, bs, h, _ => by simp [blksK] at h; obtain ⟨rfl, rfl⟩ := h; exact ⟨rfl, fun i c hc => by simp at hc⟩
  | k :: l, ob, bs, h, hob => by
    simp only [blksK] at h
    split at h <;> try contradiction
    rename_i b hb
    split at h <;> try contradiction
    rename_i o1 x hx
    cases hr : blksK lk l with
    | none => simp [hr] at h
    | some r =>
      simp [hr] at h; obtain ⟨rfl, rfl⟩ := h
      obtain ⟨h1, h2⟩ := blksK_get l r.1 r.2 hr (fun q hq => hob q (by simp [hq]))
      refine ⟨by simp [h1], ?_⟩
      intro i c hc
      cases i with
      | zero => simp at hc; subst hc; exact ⟨k, b, o1, by simp, hb, rfl, hx, fun q hq => hob q (by simp [hq])⟩
      | succ i => obtain ⟨k', b', o', g1, g2⟩ := h2 i c (by simpa using hc); exact ⟨k', b', o', by simpa using g1, g2⟩
theorem blksK_local {lk lk' : Nat → Option Blk} : ∀ (keys : List Nat), (∀ k ∈ keys, lk' k = lk k) → blksK lk' keys = blksK lk keys
  | [], _ => rfl
  | k :: l, h => by simp only [blksK]; rw [h k (by simp), blksK_local l (fun j hj => h j (by simp [hj]))]
section
variable {P : Program}
/-- The call comes to 'v', where the blocks hold what is said, and writes nothing of what was there. -/
def PureK (P : Program) (f : Nat) (args : List AV) (bs : List (Nat × AV)) (v : AV) : Prop :=
  ∀ (ρ : Env) (xs : List Value) (w : World), Rep ρ (heapK bs) (· < w.heap.size) w w → RV1s ρ args xs → CallOK P f xs.toArray w fun y w' => RV ρ0 v y ∧ Below w.heap.size w w'
theorem PureK.by_tree (hm : P.follows .mixedOrders = true) (X : EnvT P) (n f : Nat) (args : List AV) (bs : List (Nat × AV)) (nk : Nat) (kns kh : List Bool) {t : T AV} {v' : AV} (h : (callT X (execT X n) f args kns (heapK bs) nk kh).map CR.v = t) (ht : t.holds fun v => SameR v v') : PureK P f args bs v' := by
  intro ρ xs w hr hx
  subst h
  rw [T.holds_map] at ht
  refine callT_sound (fun fi path c ks hs => execT_sound hm X n fi path c ks hs) f args kns _ nk kh ρ _ w w xs _ trivial hr hx (ht.mono ?_)
  intro r hr2 ρ' x w' _ hx' hrep
  exact ⟨hr2 ρ' x hx', hrep.below.below⟩
def Ctr.ofK (f : Nat) (g : List AV → List (Nat × AV) → Option (List Bool × AV)) (ok : ∀ args bs ob v, g args bs = some (ob, v) → (∀ b ∈ ob, b = true) → PureK P f args bs v) : Ctr P where
  f := f
  g := fun args lk => match renArgs [] args with
    | some (o1, keys, args') => match blksK lk keys with
      | some (o2, bs) => (g args' bs).map fun r => { v := r.2, ob := o1 ++ (o2 ++ r.1), rd := keys }
      | none => none
    | none => none
  loc := by
    intro args lk lk' E h hk
    (try simp only at h ⊢)
    split at h <;> try contradiction
    rename_i o1 keys args' h1
    split at h <;> try contradiction
    rename_i o2 bs h2
    cases hg : g args' bs with
    | none => simp [hg] at h
    | some r =>
      simp [hg] at h; subst h
      rw [blksK_local keys hk, h2]
      simp [hg]
  ok := by
    intro ρ H B W w args xs E h hob hr ha
    (try simp only at h)
    split at h <;> try contradiction
    rename_i o1 keys args' h1
    split at h <;> try contradiction
    rename_i o2 bs h2
    cases hg : g args' bs with
    | none => simp [hg] at h
    | some r =>
      simp [hg] at h; subst h
      obtain ⟨_, hn, hx⟩ := renArgs_spec (ρ := ρ) args [] keys args' o1 xs h1 (fun q hq => hob q (by simp [hq])) List.nodup_nil ha
      obtain ⟨hl, hb⟩ := blksK_get keys o2 bs h2 (fun q hq => hob q (by simp [hq]))
      refine (ok args' bs r.1 r.2 hg (fun q hq => hob q (by simp [hq])) (envK ρ keys) xs w ?_ hx).mono ?_
      · refine ⟨Keep.refl _ _, fun _ h => h, ?_, ?_, ?_⟩
        · intro i y hi
          rw [hget_map] at hi
          cases hc : bs[i]? with
          | none => simp [hc] at hi
          | some c =>
            simp [hc] at hi; subst hi
            obtain ⟨k, b, o, g1, g2, g3, g4, g5⟩ := hb i c hc
            obtain ⟨bb, cs, mk, e1, e2, e3, _⟩ := hr.blk k b g2
            refine ⟨bb, cs, mk, by simp [envK, g1, e1], by rw [← g3]; exact e2, RC.mono (fun k b hb => by simp [ρ0] at hb) _ _ (norm_RC b.v cs o c.2 e3 g4 g5), by simp⟩
        · intro i j b h1 h2
          simp only [envK] at h1 h2
          cases hi : keys[i]? with
          | none => simp [hi] at h1
          | some k =>
            cases hj : keys[j]? with
            | none => simp [hj] at h2
            | some k' =>
              simp [hi] at h1; simp [hj] at h2
              have : k = k' := hr.inj k k' b h1 h2
              subst this
              have hi' : i < keys.length := by
                rcases Nat.lt_or_ge i keys.length with h' | h'
                · exact h'
                · simp [List.getElem?_eq_none h'] at hi
              exact (List.getElem?_inj hi' hn).1 (hi.trans hj.symm)
        · intro i hi
          rw [hget_map] at hi
          simp at hi
          simp only [envK]
          have : keys[i]? = none := List.getElem?_eq_none (by omega)
          rw [this]; rfl
      · rintro z w' ⟨g1, g2⟩
        exact ⟨ρ, Env.le.refl ρ, g1.ofρ0 ρ, hr.later g2⟩
end
end Go.Proofs.Ytglcjmnkhmdlhaa

/- Functions that put one call off to their end. -/
namespace Go.Proofs.Ytglcjmnkhmdlhaa
open Go Go.RowKit
/-- A region that makes a closure and puts its call off: the closure's function, what it bears, its slot. -/
def deferOf (ops : List Oper) : Option (Nat × List Operand × Nat) :=
  match ops with
  | [o1, o2] => match o1.op, o1.guard, o1.dst with
    | .makeFunc (.func g) first cap, none, some t => match first.toList, o2.op, o2.guard, o2.dst with
      | [], .defer c, none, none => match c.callee, c.args.toList with
        | .value (.tmp t'), [] => match Nat.beq t t' with
          | true => some (g, cap.toList, t)
          | false => none
        | _, _ => none
      | _, _, _, _ => none
    | _, _, _ => none
  | _ => none
theorem deferOf_inv {ops : List Oper} {g t : Nat} {cap : List Operand} (h : deferOf ops = some (g, cap, t)) : ∃ (o1 o2 : Oper) (cp : Array Operand) (c : Call), ops = [o1, o2] ∧ cp.toList = cap ∧ o1.op = .makeFunc (.func g) #[] cp ∧ o1.guard = none ∧ o1.dst = some t ∧
    o2.op = .defer c ∧ o2.guard = none ∧ o2.dst = none ∧ c.callee = .value (.tmp t) ∧ c.args = #[] := by
  unfold deferOf at h
  split at h <;> try contradiction
  rename_i o1 o2
  split at h <;> try contradiction
  rename_i g' first cp t' h1 h2 h3
  split at h <;> try contradiction
  rename_i c h4 h5 h6 h7
  split at h <;> try contradiction
  rename_i t2 h8 h9
  split at h <;> try contradiction
  rename_i hb
  have hb := Nat.eq_of_beq_eq_true hb
  simp at h
  obtain ⟨rfl, rfl, rfl⟩ := h
  subst hb
  have e1 : first = #[] := by cases first; simp_all
  have e2 : c.args = #[] := by cases hc : c.args; simp_all
  subst e1
  exact ⟨o1, o2, cp, c, rfl, rfl, h1, h2, h3, h5, h6, h7, h8, e2⟩
section
variable {P : Program}
theorem wanted_none {o : Oper} {ops : Array Oper} {t : Array Value} (h : o.guard = none) : Region.wanted o (yielded ops t) = true := by
  simp [Region.wanted, h]
theorem defer_region {ops : Array Oper} {g t id : Nat} {cap : List Operand} {s : St} {ρ : Env} {B : Fr} {W : WD} {a : Act} {w : World} {Q : Exit → Act → World → Prop} (hd : deferOf ops.toList = some (g, cap, t))
    (hall : (cap.map (evS s.ss)).all AV.one = true) (hget : sget (sset s.ss t (.fn g (cap.map (evS s.ss)))) t = .fn g (cap.map (evS s.ss))) (hst : StS ρ s B W a w)
    (hq : ∀ a' xs, RV1s ρ (cap.map (evS s.ss)) xs → StS ρ ⟨sset s.ss t (.fn g (cap.map (evS s.ss))), s.H, s.nk⟩ B ⟨W.w, { target := .fn (.func g) xs.toArray, args := #[] } :: W.d⟩ a' w → Q .normal a' w) :
    (Code.region id ops false).wp P Q a w := by
  obtain ⟨o1, o2, cp, c, e1, e2, e3, e4, e5, e6, e7, e8, e9, e10⟩ := deferOf_inv hd
  have eo : ops = #[o1, o2] := by cases ops; simp_all
  subst eo
  refine wp_region ?_
  show wpOps P #[o1, o2] Q [0, 1] a w
  rw [wpOps_cons]
  have hg := effMakeFunc_sound (P := P) (o := o1) (a := a) (ss := s.ss) (E := { v := .fn g (cap.map (evS s.ss)) }) (f := .func g) (first := #[]) (captured := cp) hst.rep hst.sl e3 (by
    unfold effMakeFunc
    rw [e2]
    simp only [hall])
  obtain ⟨x, ρ', w', hrun, hle, hx, hrep⟩ := hg
  have hx0 : (execOp a.eval o1).run P w = .ok (.value (.func (.func g) #[] (cp.map a.eval))) w := by
    simp [execOp, e3, Instr.makeFunc]
  rcases hrun with hrun | ⟨hrun, _⟩
  case inr => rw [hx0] at hrun; simp at hrun
  rw [hx0] at hrun
  simp at hrun
  obtain ⟨rfl, rfl⟩ := hrun
  have key : ∀ (l : List Operand), (l.map (evS s.ss)).all AV.one = true → RCs ρ (l.map (evS s.ss)) (l.map a.eval) := by
    intro l
    induction l with
    | nil => intro _; simp [RCs]
    | cons x l ih =>
      intro hl
      simp only [List.map_cons, List.all_cons, Bool.and_eq_true] at hl
      have hx := (evS_RV hst.sl x).cells (by simp [hl.1])
      obtain ⟨y, e, _, _⟩ := RV.of_cell hx hl.1
      have h1 : (a.eval x).cells.toList = [a.eval x] := by
        have hv := evS_RV hst.sl x
        have : isAggV (a.eval x) = false := by
          cases hh : evS s.ss x <;> rw [hh] at hv hl <;> simp only [AV.one] at hl <;> (try exact absurd hl.1 (by decide)) <;> simp only [RV, RV1, RC] at hv
          all_goals first
            | (simp at hv; rw [hv]; rfl)
            | (obtain ⟨_, _, e⟩ := hv; simp at e; rw [e]; rfl)
            | (obtain ⟨h1, e⟩ := hv; simp at e; rw [e]; rename_i v; cases v <;> first | rfl | simp [Value.oneCell'] at h1)
        exact isAggV_cells this
      simp only [List.map_cons, RCs]
      rw [h1] at hx
      exact ⟨[a.eval x], l.map a.eval, hx, ih hl.2, rfl⟩
  have hx1 : RV ρ (.fn g (cap.map (evS s.ss))) (.func (.func g) #[] (cp.map a.eval)) := by
    simp only [RV, RV1, RC]
    subst e2
    exact ⟨cp.toList.map a.eval, key _ hall, by rw [← List.map_toArray]⟩
  unfold wpOp
  simp only [List.getElem?_toArray, List.getElem?_cons_zero, wanted_none e4, if_true]
  refine .inl ?_
  unfold Oper.wp
  rw [hx0, Oper.upon_value, e5]
  obtain ⟨p1, p2⟩ := hst.sl.put hst.len (some t) hx1
  rw [wpOps_cons]
  unfold wpOp
  simp only [List.getElem?_toArray, List.getElem?_cons_succ, List.getElem?_cons_zero, wanted_none e7, if_true]
  refine .inl ?_
  unfold Oper.wp
  have hev : (a.put (some t) (.func (.func g) #[] (cp.map a.eval))).eval (.tmp t) = .func (.func g) #[] (cp.map a.eval) := by
    have := p1 t
    simp only [sput, hget] at this
    simp only [Act.eval]
    simp only [RV, RV1, RC] at this
    obtain ⟨ys, hy, e⟩ := this
    simp only [Act.put, Array.getD_eq_getD_getElem?, Array.getElem?_setIfInBounds] at e ⊢
    by_cases hlt : t < a.tmps.size
    · simp [hlt]
    · simp [hlt] at e
      exfalso
      have := hst.sl t
      simp [Array.getD_eq_getD_getElem?, hlt, undef] at e
  have hrun2 : (execOp (a.put (some t) (.func (.func g) #[] (cp.map a.eval))).eval o2).run P w = .ok (.defer { target := .fn (.func g) (cp.map a.eval), args := #[] }) w := by
    have hp : ∀ {α β : Type} (v : α) (f : α → Sem β), (Pure.pure v : Sem α) >>= f = f v := fun v f => rfl
    simp [execOp, e6, resolve, e9, hev, Deferred.ofValue, e10]
  rw [hrun2, Oper.upon_defer, e8]
  simp only [RV, RV1, RC] at hx1
  obtain ⟨ys, hy, e⟩ := hx1
  have ey : ys = (cp.map a.eval).toList := by simp at e; rw [e]
  subst ey
  refine hq _ (cp.map a.eval).toList (RV1s_of_RCs _ _ hall hy) ⟨?_, ?_, ?_, hst.rep⟩
  · exact p1
  · exact p2
  · show _ = _ :: W.d
    simp only [Act.put]
    rw [hst.df]
end
end Go.Proofs.Ytglcjmnkhmdlhaa

/- Functions that put one call off to their end: the run. -/
namespace Go.Proofs.Ytglcjmnkhmdlhaa
open Go Go.RowKit
section
variable {P : Program}
theorem callTD_sound {X : EnvT P} {ex : FI P → List Nat → Code → KS → ResT} (hex : ∀ (fi : FI P) path c ks, subC fi.body path = some c → CodeT P c ks.s (ex fi path c ks)) (f : Nat) (args : List AV) (kns : List Bool) (H : Heap) (nk : Nat) (kh : List Bool) (ρ : Env) (B : Fr) (W w : World) (xs : List Value)
    (R : Value → World → Prop) (u : FrameMode) (hrep : Rep ρ H B W w) (hargs : RV1s ρ args xs)
    (h : (callT X ex f args kns H nk kh).holds (fun r => ∀ ρ' x w', Env.le ρ ρ' → RV ρ' r.v x → Rep ρ' r.H B W w' → R x w')) :
    (callFunc f xs.toArray).run P w = .ok (.enter f xs.toArray) w ∧ CallsD P f xs.toArray u w fun e u' w' => u' = u ∧ ∃ x, e = .returned x ∧ R x w' := by
  unfold callT at h
  split at h
  case h_2 => exact h.elim
  rename_i fi hfi
  have hff := findF_spec _ _ hfi
  refine ⟨by rw [← hff]; exact fi.hn _ _, ?_⟩
  rw [T.holds_bind] at h
  rw [← hff]
  refine callsD_of_wp fi.hf fi.hb (wpIn_wide.1 <| hex fi [] fi.body _ rfl none ρ B ⟨W, []⟩ _ w _ trivial ⟨?_, ?_, rfl, hrep⟩ (h.mono ?_))
  · have := RV1s_slots args xs (fi.fn.ntmps - args.length) hargs
    have hl := RV1s_length _ _ hargs
    have e1 : (xs ++ List.replicate (fi.fn.ntmps - args.length) undef).toArray = xs.toArray ++ Array.replicate (fi.fn.ntmps - xs.toArray.size) undef := by simp [hl]
    rw [e1] at this
    exact this
  · have hl := RV1s_length _ _ hargs
    simp [hl, St.rs]
  · rintro ⟨e, ks'⟩ hr ρ' a' w' hle hst
    have fin : (match resAV P ks'.s.ss ks'.s.H fi.fn.results.toList with
      | some v => (T.leaf ⟨v, resKn ks' fi.fn.results.toList, ks'.s.H, ks'.s.nk, ks'.kh⟩ : T CR)
      | none => .bad).holds (fun r => ∀ ρ' x w', Env.le ρ ρ' → RV ρ' r.v x → Rep ρ' r.H B W w' → R x w') → ∃ x, (results fi.fn a'.tmps).run P w' = .ok x w' ∧ R x w' := by
      intro h
      split at h
      case h_2 => exact h.elim
      rename_i v hv
      obtain ⟨x, hx, hxv⟩ := resAV_sound (fn := fi.fn) hst hv
      exact ⟨x, hx, h ρ' x w' hle hxv hst.rep⟩
    cases e with
    | normal => obtain ⟨x, h1, h2⟩ := fin hr; exact ⟨hst.df, x, h1, x, rfl, h2⟩
    | ret => obtain ⟨x, h1, h2⟩ := fin hr; exact ⟨hst.df, x, h1, x, rfl, h2⟩
    | exit id => exact (hr : False).elim
/-- Behind the function's text: the call that was put off, and the results. -/
def afterD (X : EnvT P) (n : Nat) (fi : FI P) (g : Nat) (cap : List AV) (ks : KS) : T CR :=
  (callT X (execT X n) g cap [] ks.s.H ks.s.nk ks.kh).bind fun r => match resAV P ks.s.ss r.H fi.fn.results.toList with
    | some v => .leaf ⟨v, false, r.H, r.nk, r.kh⟩
    | none => .bad
/-- The text from a path on, up to the region that puts a call off, and behind it. -/
def runD (X : EnvT P) (n : Nat) (fi : FI P) : Nat → List Nat → KS → T CR
  | 0, _, _ => .bad
  | m + 1, path, ks => match subC fi.body path with
    | some (.seq a b) => match a with
      | .region _ ops false => match deferOf ops.toList with
        | some (g, cap, t) => match (cap.map (evS ks.s.ss)).all AV.one && Nat.ble (t + 1) ks.s.ss.length with
          | true => (execT X n fi (1 :: path) b ⟨⟨sset ks.s.ss t (.fn g (cap.map (evS ks.s.ss))), ks.s.H, ks.s.nk⟩, ks.kn, ks.kh⟩).bind fun r => match r.1 with
            | .exit _ => .bad
            | _ => afterD X n fi g (cap.map (evS ks.s.ss)) r.2
          | false => .bad
        | none => (execT X n fi (0 :: path) a ks).bind fun r => match r.1 with
          | .normal => runD X n fi m (1 :: path) r.2
          | _ => .bad
      | _ => (execT X n fi (0 :: path) a ks).bind fun r => match r.1 with
        | .normal => runD X n fi m (1 :: path) r.2
        | _ => .bad
    | _ => .bad
theorem subC_seq {root : Code} {path : List Nat} {a b : Code} (h : subC root path = some (.seq a b)) : subC root (0 :: path) = some a ∧ subC root (1 :: path) = some b := by
  simp [subC, h, child]
def postD (P : Program) (fn : Func) (R : Value → World → Prop) : Exit → Act → World → Prop := bodyPostD P fn fun e w' => ∃ x, e = .returned x ∧ R x w'
theorem runD_sound (hm : P.follows .mixedOrders = true) (X : EnvT P) (n : Nat) (fi : FI P) (ρ : Env) (B : Fr) (W : World) (R : Value → World → Prop) : ∀ (m : Nat) (path : List Nat) (c : Code) (ks : KS) (ρ1 : Env) (a : Act) (w : World), subC fi.body path = some c → Env.le ρ ρ1 →
    StS ρ1 ks.s B ⟨W, []⟩ a w → (runD X n fi m path ks).holds (fun r => ∀ ρ' x w', Env.le ρ ρ' → RV ρ' r.v x → Rep ρ' r.H B W w' → R x w') → c.wp P (postD P fi.fn R) a w
  | 0, _, _, _, _, _, _, _, _, _, h => h.elim
  | m + 1, path, c, ks, ρ1, a, w, hs, hle, hst, h => by
    simp only [runD, hs] at h
    split at h
    case h_2 => exact h.elim
    rename_i x y hxy
    simp at hxy
    subst hxy
    obtain ⟨h1, h2⟩ := subC_seq hs
    have go : ((execT X n fi (0 :: path) x ks).bind fun r => match r.1 with
        | .normal => runD X n fi m (1 :: path) r.2
        | _ => .bad).holds (fun r => ∀ ρ' x w', Env.le ρ ρ' → RV ρ' r.v x → Rep ρ' r.H B W w' → R x w') → (Code.seq x y).wp P (postD P fi.fn R) a w := by
      intro h
      rw [T.holds_bind] at h
      refine wp_seq (wpIn_wide.1 <| execT_sound hm X n fi (0 :: path) x ks h1 none ρ1 B ⟨W, []⟩ a w _ trivial hst (h.mono ?_))
      rintro ⟨e, ks'⟩ hr ρ' a' w' hle' hst'
      cases e with
      | normal => exact runD_sound hm X n fi ρ B W R m (1 :: path) y ks' ρ' a' w' h2 (hle.trans hle') hst' hr
      | ret => exact (hr : False).elim
      | exit id => exact (hr : False).elim
    split at h
    case h_2 => exact go h
    rename_i id ops
    split at h
    case h_2 => exact go h
    rename_i g cap t hd
    split at h
    case h_2 => exact h.elim
    rename_i hall
    simp only [Bool.and_eq_true] at hall
    obtain ⟨hall, hlt⟩ := hall
    have hlt := Nat.le_of_ble_eq_true hlt
    have hget : sget (sset ks.s.ss t (.fn g (cap.map (evS ks.s.ss)))) t = .fn g (cap.map (evS ks.s.ss)) := by rw [sget_sset, if_pos ⟨rfl, hlt⟩]
    refine wp_seq (defer_region hd hall hget hst ?_)
    intro a' xs hxs hst'
    show y.wp P _ a' w
    rw [T.holds_bind] at h
    refine wpIn_wide.1 <| execT_sound hm X n fi (1 :: path) y _ h2 none ρ1 B _ a' w _ trivial hst' (h.mono ?_)
    rintro ⟨e, ks'⟩ hr ρ' a2 w2 hle' hst2
    have fin : (afterD X n fi g (cap.map (evS ks.s.ss)) ks').holds (fun r => ∀ ρ' x w', Env.le ρ ρ' → RV ρ' r.v x → Rep ρ' r.H B W w' → R x w') → Leaves P fi.fn a2.tmps (fun e w' => ∃ x, e = .returned x ∧ R x w') a2.defers .returning w2 := by
      intro h
      unfold afterD at h
      rw [T.holds_bind] at h
      rw [hst2.df]
      have hk : (callT X (execT X n) g (cap.map (evS ks.s.ss)) [] ks'.s.H ks'.s.nk ks'.kh).holds (fun r => ∀ ρ2 x w3, Env.le ρ' ρ2 → RV ρ2 r.v x → Rep ρ2 r.H B W w3 → Leaves P fi.fn a2.tmps (fun e w' => ∃ x, e = .returned x ∧ R x w') [] .returning w3) := by
        refine h.mono ?_
        intro r hr2 ρ2 x w3 hle2 _ hrep
        split at hr2
        case h_2 => exact hr2.elim
        rename_i v hv
        have hst3 : StS ρ2 ⟨ks'.s.ss, r.H, r.nk⟩ B ⟨W, a2.defers⟩ a2 w3 := ⟨hst2.sl.mono hle2, hst2.len, rfl, hrep⟩
        obtain ⟨z, hz, hzv⟩ := resAV_sound (fn := fi.fn) hst3 hv
        exact ⟨z, hz, z, rfl, hr2 ρ2 z w3 (hle.trans (hle'.trans hle2)) hzv hrep⟩
      obtain ⟨c1, c2⟩ := callTD_sound (u := .returning) (R := fun _ w' => Leaves P fi.fn a2.tmps (fun e w' => ∃ x, e = .returned x ∧ R x w') [] .returning w') (fun fi path c ks hs => execT_sound hm X n fi path c ks hs) g (cap.map (evS ks.s.ss)) [] ks'.s.H ks'.s.nk ks'.kh ρ' B W w2 xs hst2.rep (RV1s.mono hle' _ _ hxs) hk
      refine leaves_cons (f := g) (args := xs.toArray) (by simp) ?_ (c2.mono ?_)
      · show (callFunc g (#[] ++ xs.toArray)).run P w2 = _
        rw [Array.empty_append]; exact c1
      · rintro e u' w' ⟨rfl, x, rfl, hx⟩
        exact hx
    cases e with
    | normal => exact fin hr
    | ret => exact fin hr
    | exit id => exact (hr : False).elim
def callD (X : EnvT P) (n m : Nat) (f : Nat) (args : List AV) (kns : List Bool) (H : Heap) (nk : Nat) (kh : List Bool) : T CR :=
  match findF f X.fis with
  | some fi => runD X n fi m [] ⟨⟨args ++ List.replicate (fi.fn.ntmps - args.length) .undef, H, nk⟩, kns, kh⟩
  | none => .bad
theorem callD_sound (hm : P.follows .mixedOrders = true) (X : EnvT P) (n m f : Nat) (args : List AV) (kns : List Bool) (H : Heap) (nk : Nat) (kh : List Bool) (ρ : Env) (B : Fr) (W w : World) (xs : List Value) (R : Value → World → Prop) (hrep : Rep ρ H B W w) (hargs : RV1s ρ args xs)
    (h : (callD X n m f args kns H nk kh).holds (fun r => ∀ ρ' x w', Env.le ρ ρ' → RV ρ' r.v x → Rep ρ' r.H B W w' → R x w')) : CallOK P f xs.toArray w R := by
  unfold callD at h
  split at h
  case h_2 => exact h.elim
  rename_i fi hfi
  have hff := findF_spec _ _ hfi
  refine .inr ⟨by rw [← hff]; exact fi.hn _ _, ?_⟩
  rw [← hff]
  refine calls_of_wp_defers fi.hf fi.hb (runD_sound hm X n fi ρ B W R m [] fi.body _ ρ _ w rfl (Env.le.refl ρ) ⟨?_, ?_, rfl, hrep⟩ h)
  · have := RV1s_slots args xs (fi.fn.ntmps - args.length) hargs
    have hl := RV1s_length _ _ hargs
    have e1 : (xs ++ List.replicate (fi.fn.ntmps - args.length) undef).toArray = xs.toArray ++ Array.replicate (fi.fn.ntmps - xs.toArray.size) undef := by simp [hl]
    rw [e1] at this
    exact this
  · have hl := RV1s_length _ _ hargs
    simp [hl, St.rs]
/-- A contract out of the run of a function that puts a call off. -/
theorem Pure.by_defer (hm : P.follows .mixedOrders = true) (X : EnvT P) (n m f : Nat) (args : List AV) {t : T AV} {v' : AV} (h : (callD X n m f args [] [] 0 []).map CR.v = t) (ht : t.holds fun v => SameR v v') : Pure P f args v' := by
  intro xs w hx
  subst h
  rw [T.holds_map] at ht
  refine callD_sound hm X n m f args [] [] 0 [] ρ0 (· < w.heap.size) w w xs _ (Rep.start w) hx (ht.mono ?_)
  intro r hr ρ' x w' _ hx' hrep
  exact ⟨hr ρ' x hx', hrep.below.below⟩
end
end Go.Proofs.Ytglcjmnkhmdlhaa

/- A range over a function: its rounds, the iterator's run, the statement. -/
namespace Go.Proofs.Ytglcjmnkhmdlhaa
open Go Go.RowKit
/-- The slots in which a round finds what yield was handed. -/
def setPs : List AV → List Nat → List AV → List AV
  | ss, p :: ps, v :: vs => setPs (sset ss p v) ps vs
  | ss, _, _ => ss
def setKs : List Bool → List Nat → List Bool → List Bool
  | kn, p :: ps, b :: bs => setKs (setB kn p b) ps bs
  | kn, _, _ => kn
theorem setPs_sl {ρ : Env} : ∀ (ps : List Nat) (vs : List AV) (xs : List Value) (ss : List AV) (tm : Array Value), SlotsR ρ ss tm → ss.length = tm.size → RV1s ρ vs xs → (∀ v ∈ vs, v.noTup = true) →
    SlotsR ρ (setPs ss ps vs) ((ps.zip xs).foldl (fun t q => t.setIfInBounds q.1 q.2) tm) ∧ (setPs ss ps vs).length = ((ps.zip xs).foldl (fun t q => t.setIfInBounds q.1 q.2) tm).size
  | [], vs, xs, ss, tm, h, hl, _, _ => by simpa [setPs] using ⟨h, hl⟩
  | p :: ps, [], xs, ss, tm, h, hl, hv, _ => by
    simp only [RV1s] at hv
    subst hv
    simpa [setPs] using ⟨h, hl⟩
  | p :: ps, v :: vs, xs, ss, tm, h, hl, hv, hn => by
    simp only [RV1s] at hv
    obtain ⟨x, ys, h1, h2, rfl⟩ := hv
    have hx : RV ρ v x := RV_of_RV1 h1
    obtain ⟨p1, p2⟩ := SlotsR.put (a := { tmps := tm, defers := [] }) h hl (some p) hx
    simp only [sput, Act.put] at p1 p2
    have := setPs_sl ps vs ys (sset ss p v) (tm.setIfInBounds p x) p1 p2 h2 (fun u hu => hn u (by simp [hu]))
    simpa [setPs] using this

section
variable {P : Program}
theorem Rep.not_obj {ρ : Env} {H : Heap} {B : Fr} {W w : World} (h : Rep ρ H B W w) {D : Nat} {o : Obj} (hD : w.heap[D]? = some o) (ho : o.isCells = false) {k b : Nat} (hk : ρ k = some b) : b ≠ D := by
  cases hg : hget H k with
  | none => rw [h.dom k hg] at hk; simp at hk
  | some x =>
    obtain ⟨b', cs, mk, e1, e2, _⟩ := h.blk k x hg
    rw [hk] at e1
    simp at e1
    subst e1
    intro e
    subst e
    rw [hD] at e2
    simp at e2
    subst e2
    simp [Obj.isCells] at ho
/-- A block of the frame, no cells, turns in the world that is looked back to, and likewise in this one. -/
theorem Rep.swap {ρ : Env} {H : Heap} {B : Fr} {W w : World} (h : Rep ρ H B W w) {D : Nat} {o : Obj} (hD : w.heap[D]? = some o) (ho : o.isCells = false) (hW : D < W.heap.size) (o' : Obj) : Rep ρ H B (W.putObj D o') (w.putObj D o') := by
  refine ⟨⟨h.below.os, h.below.tape, h.below.output, by simpa using h.below.size, ?_⟩, fun k hk => by simpa using h.bnd k hk, ?_, h.inj, h.dom⟩
  · intro k hk
    by_cases e : k = D
    · subst e
      rw [World.putObj_heap_same (heap_lt hD), World.putObj_heap_same hW]
    · rw [World.putObj_heap_other e, World.putObj_heap_other e]
      exact h.below.block k hk
  · intro k x hx
    obtain ⟨b, cs, mk, e1, e2, e3, e4⟩ := h.blk k x hx
    exact ⟨b, cs, mk, e1, by rw [World.putObj_heap_other (h.not_obj hD ho e1)]; exact e2, e3, e4⟩
theorem Rep.rebase {ρ : Env} {H : Heap} {B : Fr} {W W' w : World} (h : Rep ρ H B W w) (hk : Keep B W' W) (hb : ∀ k, B k → k < W'.heap.size) : Rep ρ H B W' w :=
  ⟨hk.trans h.below, hb, h.blk, h.inj, h.dom⟩
/-- A block beyond the frame, no cells, turns. -/
theorem Rep.out {ρ : Env} {H : Heap} {B : Fr} {W w : World} (h : Rep ρ H B W w) {D : Nat} {o : Obj} (hD : w.heap[D]? = some o) (ho : o.isCells = false) (hB : ¬ B D) (o' : Obj) : Rep ρ H B W (w.putObj D o') := by
  refine ⟨h.below.trans ⟨rfl, rfl, rfl, by simp, fun k hk => World.putObj_heap_other (fun e => hB (e ▸ hk))⟩, h.bnd, ?_, h.inj, h.dom⟩
  intro k x hx
  obtain ⟨b, cs, mk, e1, e2, e3, e4⟩ := h.blk k x hx
  exact ⟨b, cs, mk, e1, by rw [World.putObj_heap_other (h.not_obj hD ho e1)]; exact e2, e3, e4⟩
theorem Rep.less {ρ : Env} {H : Heap} {B B' : Fr} {W w : World} (h : Rep ρ H B W w) (hb : ∀ k, B' k → B k) : Rep ρ H B' W w :=
  ⟨h.below.mono hb, fun k hk => h.bnd k (hb k hk), fun k x hx => by
    obtain ⟨b, cs, mk, e1, e2, e3, e4⟩ := h.blk k x hx
    exact ⟨b, cs, mk, e1, e2, e3, fun ho => ⟨fun hh => (e4 ho).1 (hb _ hh), (e4 ho).2⟩⟩, h.inj, h.dom⟩

/-- A loop's record, between two rounds, and the slots that it bears. -/
structure RecC (P : Program) (fi : FI P) (path : List Nat) (ss : List AV) where
  L : Nat
  ρs : Env
  lp : Loop
  g : Operand
  hsub : subC fi.body path = some (.rangeFunc g lp.params lp.assign lp.body)
  hst : lp.state = .ready
  hpd : lp.pending = none
  sl : SlotsR ρs ss lp.tmps
  len : ss.length = lp.tmps.size
def RecC.C {fi : FI P} {path : List Nat} {ss : List AV} (R : RecC P fi path ss) : CT :=
  ⟨fun ρ B W => Env.le R.ρs ρ ∧ B R.L ∧ W.heap[R.L]? = some (.loop R.lp), fun h g => ⟨h.1.trans g, h.2⟩⟩
def RecC.yv {fi : FI P} {path : List Nat} {ss : List AV} (R : RecC P fi path ss) : AV := .raw (.func (.yield R.L) #[] #[])

/-- A round: the loop variables are set, the body is run. -/
def yalR (X : EnvT P) (n : Nat) (fi : FI P) (path : List Nat) (ss : List AV) (kn : List Bool) : YalT := fun args kns H nk kh =>
  match subC fi.body path with
  | some (.rangeFunc _ ps assign body) => match Nat.beq args.length ps.toList.length && args.all AV.noTup with
    | true => (execT X n fi (0 :: path) assign ⟨⟨setPs ss ps.toList args, H, nk⟩, setKs kn ps.toList kns, kh⟩).bind fun r => match r.1 with
      | .normal => (execT X n fi (1 :: path) body r.2).bind fun r2 => match r2.1 with
        | .normal => .leaf ⟨.bool true, true, r2.2.s.H, r2.2.s.nk, r2.2.kh⟩
        | _ => .bad
      | _ => .bad
    | false => .bad
  | _ => .bad

theorem yalR_ok (hm : P.follows .mixedOrders = true) (X : EnvT P) (n : Nat) {fi : FI P} {path : List Nat} {ss : List AV} (kn : List Bool) (R : RecC P fi path ss) : YalOK P R.C R.L (yalR X n fi path ss kn) := by
  intro args kns H nk kh ρ B W w xs Rq hC hrep hargs h
  obtain ⟨hle, hB, hW⟩ := hC
  unfold yalR at h
  rw [R.hsub] at h
  simp only at h
  split at h
  case h_2 => exact h.elim
  rename_i hlen
  simp only [Bool.and_eq_true] at hlen
  have hl1 := Nat.eq_of_beq_eq_true hlen.1
  have hn1 : ∀ v ∈ args, v.noTup = true := List.all_eq_true.1 hlen.2
  have hWs : R.L < W.heap.size := heap_lt hW
  have hw : w.heap[R.L]? = some (.loop R.lp) := (hrep.below.block _ hB).trans hW
  have hl2 := RV1s_length _ _ hargs
  have hsz : xs.toArray.size = R.lp.params.size := by simp at hl1; simp; omega
  have hfold : (R.lp.params.zip xs.toArray).foldl (fun tmps (t, a) => tmps.setIfInBounds t a) R.lp.tmps = (R.lp.params.toList.zip xs).foldl (fun t q => t.setIfInBounds q.1 q.2) R.lp.tmps := by
    rw [← Array.foldl_toList, Array.toList_zip]
  obtain ⟨s1, s2⟩ := setPs_sl R.lp.params.toList args xs ss R.lp.tmps (R.sl.mono hle) R.len hargs hn1
  refine ⟨_, _, _, _, run_yield hw hsz, ?_⟩
  rw [hfold]
  refine roundIn_of_wpIn trivial ?_
  rw [T.holds_bind] at h
  have sub0 : subC fi.body (0 :: path) = some R.lp.assign := by simp [subC, R.hsub, child]
  have sub1 : subC fi.body (1 :: path) = some R.lp.body := by simp [subC, R.hsub, child]
  refine execT_sound hm X n fi (0 :: path) R.lp.assign _ sub0 (some R.L) ρ B ⟨W, []⟩ _ w _ trivial ⟨s1, s2, rfl, hrep⟩ (h.mono ?_)
  rintro ⟨e, ks1⟩ hr ρ1 a1 w1 hle1 hst1
  cases e with
  | ret => exact (hr : False).elim
  | exit id => exact (hr : False).elim
  | normal =>
    have hr : T.holds _ _ := hr
    rw [T.holds_bind] at hr
    have hL1 : w1.heap[R.L]? = some (.loop R.lp) := (hst1.rep.below.block _ hB).trans hW
    refine ⟨_, run_beginRound hL1 R.hst, ?_⟩
    have hst2 : StS ρ1 ks1.s B ⟨W.putObj R.L (.loop { R.lp with state := .busy }), []⟩ a1 (w1.putObj R.L (.loop { R.lp with state := .busy })) := ⟨hst1.sl, hst1.len, hst1.df, hst1.rep.swap hL1 rfl hWs _⟩
    refine execT_sound hm X n fi (1 :: path) R.lp.body ks1 sub1 (some R.L) ρ1 B ⟨_, []⟩ a1 _ _ trivial hst2 (hr.mono ?_)
    rintro ⟨e2, ks2⟩ hr2 ρ2 a2 w2 hle2 hst3
    cases e2 with
    | ret => exact (hr2 : False).elim
    | exit id => exact (hr2 : False).elim
    | normal =>
      have hL3 : w2.heap[R.L]? = some (.loop { R.lp with state := .busy }) := (hst3.rep.below.block _ hB).trans (World.putObj_heap_same hWs)
      refine ⟨_, _, run_endRound none hL3, .bool true, rfl, ?_⟩
      refine hr2 ρ2 (.bool true) _ (hle1.trans hle2) (by simp only [RV, RV1, RC]) ?_
      have e : (Obj.loop { ({ R.lp with state := .busy } : Loop) with state := if (none : Option Code).isNone = true then .ready else .done, pending := none }) = .loop R.lp := by
        have h1 := R.hst
        have h2 := R.hpd
        cases hlp : R.lp
        rw [hlp] at h1 h2
        simp only at h1 h2
        subst h1 h2
        rfl
      rw [e]
      have := hst3.rep.swap hL3 rfl (by simpa using hWs) (.loop R.lp)
      refine this.rebase ⟨rfl, rfl, rfl, by simp, ?_⟩ hrep.bnd
      intro k hk
      by_cases ek : k = R.L
      · rw [ek, World.putObj_heap_same (by simpa using hWs), hW]
      · rw [World.putObj_heap_other ek, World.putObj_heap_other ek]

/-- The mark of a loop's put-off calls. -/
abbrev mkD (D : Nat) : Deferred := { target := .collected D, args := #[] }

/-- The statement: what the iterator's run comes to. -/
theorem range_wp (hm : P.follows .mixedOrders = true) {fi : FI P} {path : List Nat} {g : Operand} {ps : Array Tmp} {assign body : Code} (hsub : subC fi.body path = some (.rangeFunc g ps assign body)) {s : St} {kh : List Bool} {gf : Nat} {cap : List AV} (hg : evS s.ss g = .fn gf cap) (hcap : cap.all AV.one = true)
    {ρ : Env} {B : Fr} {W : WD} {a : Act} {w : World} {Q : Exit → Act → World → Prop} (hst : StS ρ s B W a w) (Ph : CR → Prop)
    (hit : ∀ R : RecC P fi path s.ss, ∃ (X : EnvT P R.C) (n : Nat), (callT X (execT X n) gf (R.yv :: cap) [] s.H s.nk kh).holds Ph)
    (hq : ∀ r, Ph r → ∀ D ρ' w', Env.le ρ ρ' → w.heap.size ≤ D → Rep ρ' r.H (fun i => B i ∨ i = D) w' w' → Keep B w w' → w'.heap[D]? = some (.deferred (some [])) → Q .normal { a with defers := mkD D :: a.defers } w') :
    (Code.rangeFunc g ps assign body).wpIn Fence.wide 0 P Q a w := by
  have hx := evS_RV hst.sl g
  have hg' : evS s.rs.1 g = .fn gf cap := hg
  rw [hg'] at hx
  simp only [RV, RV1, RC] at hx
  obtain ⟨lb, hlb, e2⟩ := hx
  simp at e2
  refine wpIn_rangeFunc ?_
  intro fn _
  obtain ⟨lp, hlp⟩ : ∃ lp : Loop, lp = { state := .ready, pending := none, fn, tmps := a.tmps, params := ps, assign, body, defers := w.heap.size } := ⟨_, rfl⟩
  obtain ⟨W1, hW1⟩ : ∃ W1, (w.alloc (.deferred (some []))).alloc (.loop lp) = W1 := ⟨_, rfl⟩
  have hL1 : W1.heap[w.heap.size + 1]? = some (.loop lp) := by
    rw [← hW1]; have := World.alloc_heap_new (w.alloc (.deferred (some []))) (.loop lp); rwa [World.size_alloc] at this
  have hK1 : W1.heap[w.heap.size]? = some (.deferred (some [])) := by
    rw [← hW1]; exact (Below.heap_alloc _ _ _ (by simp)).trans (World.alloc_heap_new w _)
  have hold : ∀ k, k < w.heap.size → W1.heap[k]? = w.heap[k]? := by
    intro k hk
    rw [← hW1, Below.heap_alloc _ _ _ (by simp; omega), Below.heap_alloc _ _ _ hk]
  have hsz : W1.heap.size = w.heap.size + 1 + 1 := by rw [← hW1]; simp
  have hos : W1.os = w.os ∧ W1.tape = w.tape ∧ W1.output = w.output := by rw [← hW1]; exact ⟨rfl, rfl, rfl⟩
  have hBw : ∀ k, B k → k < w.heap.size := fun k hk => Nat.lt_of_lt_of_le (hst.rep.bnd k hk) hst.rep.below.size
  have hrep : Rep ρ s.H (fun i => B i ∨ i = w.heap.size ∨ i = w.heap.size + 1) W1 W1 := by
    refine ⟨Keep.refl _ _, ?_, ?_, hst.rep.inj, hst.rep.dom⟩
    · rintro k (hk | rfl | rfl)
      · have := hBw k hk; omega
      · omega
      · omega
    · intro k x hx
      obtain ⟨b, cs, mk, e1, e2, e3, e4⟩ := hst.rep.blk k x hx
      have hb := heap_lt e2
      refine ⟨b, cs, mk, e1, by rw [hold b hb]; exact e2, e3, fun ho => ⟨?_, (e4 ho).2⟩⟩
      rintro (hh | hh | hh)
      · exact (e4 ho).1 hh
      · omega
      · omega
  let R : RecC P fi path s.ss := { L := w.heap.size + 1, ρs := ρ, lp := lp, g := g, hsub := by rw [hlp]; exact hsub, hst := by rw [hlp], hpd := by rw [hlp], sl := by rw [hlp]; exact hst.sl, len := by rw [hlp]; exact hst.len }
  obtain ⟨X, n, ht⟩ := hit R
  have hfi : ∃ gi, findF gf X.fis = some gi := by
    unfold callT at ht
    split at ht
    · exact ⟨_, ‹_›⟩
    · exact ht.elim
  obtain ⟨gi, hgi⟩ := hfi
  have hgf := findF_spec _ _ hgi
  have hyv : RV1 ρ R.yv (.func (.yield (w.heap.size + 1)) #[] #[]) := by
    simp only [RecC.yv, RV1, RC]
    exact ⟨rfl, rfl⟩
  have hargs : RV1s ρ (R.yv :: cap) (.func (.yield (w.heap.size + 1)) #[] #[] :: lb) := by
    simp only [RV1s]
    exact ⟨_, _, hyv, RV1s_of_RCs _ _ hcap hlb, rfl⟩
  have hc := callT_sound (execT_sound hm X n) gf (R.yv :: cap) [] s.H s.nk kh ρ (fun i => B i ∨ i = w.heap.size ∨ i = w.heap.size + 1) W1 W1 _ (fun _ w3 => ∃ r, Ph r ∧ ∃ ρ', Env.le ρ ρ' ∧ Rep ρ' r.H (fun i => B i ∨ i = w.heap.size ∨ i = w.heap.size + 1) W1 w3)
    ⟨Env.le.refl ρ, .inr (.inr rfl), hL1⟩ hrep hargs (ht.mono fun r hr ρ' x w' h1 _ h3 => ⟨r, hr, ρ', h1, h3⟩)
  have henter : (callFunc gf (Value.func (.yield (w.heap.size + 1)) #[] #[] :: lb).toArray).run P W1 = .ok (.enter gf (Value.func (.yield (w.heap.size + 1)) #[] #[] :: lb).toArray) W1 := by rw [← hgf]; exact gi.hn _ _
  have hcalls := (hc.resolve_left (by rintro ⟨x, hx, _⟩; rw [henter] at hx; simp at hx)).2
  refine ⟨w.heap.size + 1, [mkD w.heap.size], W1, { target := .fn (.func gf) lb.toArray, args := #[.func (.yield (w.heap.size + 1)) #[] #[]] }, W1, gf, (Value.func (.yield (w.heap.size + 1)) #[] #[] :: lb).toArray, W1, ?_, ?_, fun _ _ => trivial, ?_, fun h => by simp [Fence.wide] at h, ?_⟩
  · rw [← hW1, hlp]; exact run_enterLoop_outer _ _ _ _ _
  · have hp : ∀ {α β : Type} (v : α) (f : α → Sem β), (Pure.pure v : Sem α) >>= f = f v := fun v f => rfl
    simp only [resolve, e2, Deferred.ofValue]
    simp [go_sem]
  · have : (#[Value.func (.yield (w.heap.size + 1)) #[] #[]] ++ lb.toArray) = (Value.func (.yield (w.heap.size + 1)) #[] #[] :: lb).toArray := by simp
    show (callFunc gf (#[Value.func (.yield (w.heap.size + 1)) #[] #[]] ++ lb.toArray)).run P W1 = _
    rw [this]; exact henter
  · refine callsIn_wide.2 (hcalls.mono ?_)
    rintro e w3 ⟨x, rfl, r, hr, ρ', hle, hrep'⟩
    have hL : w3.heap[w.heap.size + 1]? = some (.loop lp) := (hrep'.below.block _ (.inr (.inr rfl))).trans hL1
    have hK : w3.heap[w.heap.size]? = some (.deferred (some [])) := (hrep'.below.block _ (.inr (.inl rfl))).trans hK1
    refine ⟨none, w3.putObj (w.heap.size + 1) (.loop { lp with state := .exhausted }), ?_, ?_⟩
    · have := run_endLoop (P := P) hL (by rw [hlp]; simp)
      have hp : lp.pending = none := by rw [hlp]
      rw [this, hp]
    · have hrep2 := (hrep'.less (B' := fun i => B i ∨ i = w.heap.size) (by rintro k (hk | hk); exact .inl hk; exact .inr (.inl hk))).out hL rfl (by
        rintro (hk | hk)
        · have := hBw _ hk; omega
        · omega) (.loop { lp with state := .exhausted })
      have hkeep : Keep B w (w3.putObj (w.heap.size + 1) (.loop { lp with state := .exhausted })) := by
        refine Keep.trans ⟨hos.1, hos.2.1, hos.2.2, by omega, fun k hk => hold k (hBw k hk)⟩ (hrep2.below.mono fun k hk => .inl hk)
      refine hq r hr w.heap.size ρ' _ hle (Nat.le_refl _) ?_ ?_ ?_
      · exact ⟨Keep.refl _ _, fun k hk => Nat.lt_of_lt_of_le (hrep2.bnd k hk) hrep2.below.size, hrep2.blk, hrep2.inj, hrep2.dom⟩
      · exact hkeep
      · rw [World.putObj_heap_other (by omega)]; exact hK
end
end Go.Proofs.Ytglcjmnkhmdlhaa

/- Functions that hold ranges over functions. -/
namespace Go.Proofs.Ytglcjmnkhmdlhaa
open Go Go.RowKit
section
variable {P : Program}
/-- What a range over a function comes to, in a function's text. -/
structure RFT (P : Program) where
  f : Nat
  path : List Nat
  g : KS → T KS
  ok : ∀ (fi : FI P) (g0 : Operand) (ps : Array Tmp) (assign body : Code), fi.f = f → subC fi.body path = some (.rangeFunc g0 ps assign body) → ∀ (ks : KS) (ρ : Env) (B : Fr) (W : WD) (a : Act) (w : World) (Q : Exit → Act → World → Prop), StS ρ ks.s B W a w →
    (g ks).holds (fun ks' => ∀ D ρ' w', Env.le ρ ρ' → w.heap.size ≤ D → StS ρ' ks'.s (fun i => B i ∨ i = D) ⟨w', mkD D :: W.d⟩ { a with defers := mkD D :: a.defers } w' → Keep B w w' → w'.heap[D]? = some (.deferred (some [])) → Q .normal { a with defers := mkD D :: a.defers } w') →
    (Code.rangeFunc g0 ps assign body).wpIn Fence.wide 0 P Q a w
def findRF {P : Program} (f : Nat) (path : List Nat) : List (RFT P) → Option (RFT P)
  | [] => none
  | c :: l => match Nat.beq c.f f && natsEq c.path path with
    | true => some c
    | false => findRF f path l
theorem findRF_spec {f : Nat} {path : List Nat} : ∀ (l : List (RFT P)) (c : RFT P), findRF f path l = some c → c.f = f ∧ c.path = path
  | [], c, h => by simp [findRF] at h
  | d :: l, c, h => by
    simp only [findRF] at h
    split at h
    · rename_i hb
      simp only [Bool.and_eq_true] at hb
      simp at h; subst h
      exact ⟨Nat.eq_of_beq_eq_true hb.1, natsEq_eq _ _ hb.2⟩
    · exact findRF_spec l c h
def rfG (fi : FI P) (path : List Nat) : Operand :=
  match subC fi.body path with
  | some (.rangeFunc g _ _ _) => g
  | _ => .func 0
def rfP (fi : FI P) (path : List Nat) : Array Tmp :=
  match subC fi.body path with
  | some (.rangeFunc _ p _ _) => p
  | _ => #[]
def rfA (fi : FI P) (path : List Nat) : Code :=
  match subC fi.body path with
  | some (.rangeFunc _ _ a _) => a
  | _ => .skip
def rfB (fi : FI P) (path : List Nat) : Code :=
  match subC fi.body path with
  | some (.rangeFunc _ _ _ b) => b
  | _ => .skip
/-- Out of one entry's state: the iterator, by its function and what it bears. -/
def RFT.one (hm : P.follows .mixedOrders = true) (gi : FI P) (path : List Nat) (hsub : subC gi.body path = some (.rangeFunc (rfG gi path) (rfP gi path) (rfA gi path) (rfB gi path))) (s0 : St) (kh0 : List Bool) (gf : Nat) (cap : List AV) (hg : evS s0.ss (rfG gi path) = .fn gf cap) (hcap : cap.all AV.one = true)
    (H' : Heap) (sf : KS) (hsf : sf.s.ss = s0.ss ∧ sf.s.H = H')
    (hit : ∀ R : RecC P gi path s0.ss, ∃ (X : EnvT P R.C) (n : Nat), ((callT X (execT X n) gf (R.yv :: cap) [] s0.H s0.nk kh0).map CR.H).holds fun rH => ∀ (ρ : Env) (B : Fr) (W w : World), Rep ρ rH B W w → ∃ ρ2, (∀ k b, k < s0.H.length → ρ k = some b → ρ2 k = some b) ∧ Rep ρ2 H' B W w) : RFT P where
  f := gi.f
  path := path
  g := fun ks => match fitSt s0 ks.s with
    | some ob => .needs ob (.leaf sf)
    | none => .bad
  ok := by
    intro fi g0 ps0 as0 bd0 hf hs ks ρ B W a w Q hst h
    have hfi := FI.ext' hf
    subst hfi
    rw [hsub] at hs
    simp only [Option.some.injEq, Code.rangeFunc.injEq] at hs
    obtain ⟨e1, e2, e3, e4⟩ := hs
    subst e1 e2 e3 e4
    split at h
    case h_2 => exact h.elim
    rename_i ob hft
    rw [T.holds_needs] at h
    obtain ⟨h1, h2⟩ := h
    have hst0 := fitSt_sound hft h1 hst
    refine range_wp hm hsub hg hcap hst0 _ (fun R => by obtain ⟨X, n, h⟩ := hit R; rw [T.holds_map] at h; exact ⟨X, n, h⟩) ?_
    intro r hr D ρ' w' hle hD hrep hkeep hDe
    obtain ⟨ρ2, hρ2, hrep2⟩ := hr ρ' _ _ _ hrep
    have hle2 : Env.le ρ ρ2 := by
      intro k b hk
      refine hρ2 k b ?_ (hle k b hk)
      rcases Nat.lt_or_ge k s0.H.length with h' | h'
      · exact h'
      · have := hst0.rep.dom k (hget_long (m := s0.H.length) _ k h')
        rw [hk] at this; simp at this
    refine h2 D ρ2 w' hle2 hD ⟨?_, ?_, ?_, ?_⟩ hkeep hDe
    · show SlotsR ρ2 sf.s.ss _
      rw [hsf.1]; exact hst0.sl.mono hle2
    · show sf.s.ss.length = _
      rw [hsf.1]; exact hst0.len
    · show _ :: a.defers = _
      rw [hst0.df]
    · show Rep ρ2 sf.s.H _ _ _
      rw [hsf.2]; exact hrep2
def yieldL : AV → Option Nat
  | .raw v => match v with
    | .func f a b => match f, a.toList, b.toList with
      | .yield l, [], [] => some l
      | _, _, _ => none
    | _ => none
  | _ => none
theorem yieldL_eq {v : AV} {l : Nat} (h : yieldL v = some l) : v = .raw (.func (.yield l) #[] #[]) := by
  unfold yieldL at h
  split at h <;> try contradiction
  split at h <;> try contradiction
  rename_i f a b
  split at h <;> try contradiction
  rename_i l' h1 h2
  simp at h; subst h
  have e1 : a = #[] := by cases a; simp_all
  have e2 : b = #[] := by cases b; simp_all
  subst e1 e2; rfl
/-- A loop's law for one entry's state, in which the slot 'j' has the round's value. -/
def LCT.oneY {C : CT} (gi : FI P) (path : List Nat) (j L : Nat) (s0 : St) (e : Ex) (sf : KS) (hsub : subC gi.body path = some (.loop (loopAt gi path)))
    (ok : CodeR P (.loop (loopAt gi path)) ⟨sset s0.ss j (.raw (.func (.yield L) #[] #[])), s0.H, s0.nk⟩ (fun e' s' => e' = e ∧ s' = sf.s) C) : LCT P C where
  f := gi.f
  path := path
  g := fun ks => match yieldL (sget ks.s.ss j) with
    | some l => match fitSt s0 ks.s with
      | some ob => .need (Nat.beq l L) (.needs ob (.leaf (e, sf)))
      | none => .bad
    | none => .bad
  ok := by
    intro fi body hf hs ks
    have hfi := FI.ext' hf
    subst hfi
    intro r ρ B W a w Q hC hst h
    split at h
    case h_2 => exact h.elim
    rename_i l hl
    split at h
    case h_2 => exact h.elim
    rename_i ob hft
    obtain ⟨hb, h⟩ := h
    have hb := Nat.eq_of_beq_eq_true hb
    subst hb
    rw [T.holds_needs] at h
    obtain ⟨h1, h3⟩ := h
    rw [hsub] at hs
    simp at hs; subst hs
    have hst0 := fitSt_sound hft h1 hst
    refine ok r ρ B W a w Q hC ⟨?_, ?_, hst0.df, hst0.rep⟩ ?_
    · intro i
      have h0 : RV ρ (sget s0.ss i) (a.tmps.getD i undef) := hst0.sl i
      have hj : RV ρ (sget ks.s.ss i) (a.tmps.getD i undef) := hst.sl i
      show RV ρ (sget (sset s0.ss j _) i) _
      rw [sget_sset]
      split
      · rename_i hij
        obtain ⟨rfl, _⟩ := hij
        rw [yieldL_eq hl] at hj
        exact hj
      · exact h0
    · show (sset s0.ss j _).length = _
      rw [sset_length]; exact hst0.len
    · rintro e' s' ⟨rfl, rfl⟩
      exact h3
def finM (P : Program) (rs : List ResultVar) (ks : KS) : T CR :=
  match resAV P ks.s.ss ks.s.H rs with
  | some v => .leaf ⟨v, false, ks.s.H, ks.s.nk, ks.kh⟩
  | none => .bad
def hasRF : Code → Bool
  | .seq a b => hasRF a || hasRF b
  | .cond _ a b => hasRF a || hasRF b
  | .block _ a => hasRF a
  | .rangeFunc _ _ _ _ => true
  | _ => false
/-- The text from a path on, ranges over functions in it (in no loop). -/
def runM (X : EnvT P) (rfs : List (RFT P)) (n : Nat) (fi : FI P) : Nat → List Nat → KS → ResT
  | 0, _, _ => .bad
  | m + 1, path, ks => match subC fi.body path with
    | some c => match hasRF c with
      | false => execT X n fi path c ks
      | true => match c with
        | .seq _ _ => (runM X rfs n fi m (0 :: path) ks).bind fun r => match r.1 with
          | .normal => runM X rfs n fi m (1 :: path) r.2
          | _ => .leaf r
        | .cond x _ _ => match evS ks.s.ss x with
          | .bool t => .ite t (runM X rfs n fi m (0 :: path) ks) (runM X rfs n fi m (1 :: path) ks)
          | _ => .bad
        | .block id _ => (runM X rfs n fi m (0 :: path) ks).bind fun r => match r.1 with
          | .exit id' => match Nat.beq id' id with
            | true => .leaf (.normal, r.2)
            | false => .leaf r
          | _ => .leaf r
        | .rangeFunc _ _ _ _ => match findRF fi.f path rfs with
          | some rf => (rf.g ks).bind fun ks' => .leaf (.normal, ks')
          | none => .bad
        | _ => .bad
    | none => .bad
/-- What has been kept on the way: the marks that were laid. -/
structure MS (B : Fr) (W : World) (ds : List Nat) (B' : Fr) (W' : World) : Prop where
  sub : ∀ i, B i → B' i
  bnd : ∀ i, B i → i < W.heap.size
  keep : Keep B W W'
  dm : ∀ D ∈ ds, B' D ∧ ¬ B D ∧ W'.heap[D]? = some (.deferred (some []))
  nd : ds.Nodup
def shut (w : World) : List Nat → World
  | [] => w
  | D :: ds => shut (w.putObj D (.deferred none)) ds
theorem leaves_marks {fn : Func} {tmps : Array Value} {R : Ending → World → Prop} : ∀ (ds : List Nat) (w : World), (∀ D ∈ ds, w.heap[D]? = some (.deferred (some []))) → ds.Nodup → LeavesIn Fence.wide 0 P fn tmps R [] .returning (shut w ds) → LeavesInM Fence.wide 0 P fn tmps R (ds.map mkD) .returning w
  | [], w, _, _, h => by simpa [LeavesInM, shut] using h
  | D :: ds, w, hd, hn, h => by
    simp only [List.nodup_cons] at hn
    refine ⟨by simp, .inl ⟨D, _, rfl, run_takeDeferred (hd D (by simp)), leaves_marks ds _ ?_ hn.2 h⟩⟩
    intro E hE
    rw [World.putObj_heap_other (show E ≠ D from fun e => hn.1 (e ▸ hE))]
    exact hd E (by simp [hE])
theorem Rep.shut {ρ : Env} {H : Heap} {B : Fr} {W : World} : ∀ (ds : List Nat) (w : World), (∀ D ∈ ds, ¬ B D ∧ w.heap[D]? = some (.deferred (some []))) → ds.Nodup → Rep ρ H B W w → Rep ρ H B W (shut w ds)
  | [], w, _, _, h => h
  | D :: ds, w, hd, hn, h => by
    simp only [List.nodup_cons] at hn
    refine Rep.shut ds _ ?_ hn.2 (h.out (hd D (by simp)).2 rfl (hd D (by simp)).1 _)
    intro E hE
    refine ⟨(hd E (by simp [hE])).1, ?_⟩
    rw [World.putObj_heap_other (show E ≠ D from fun e => hn.1 (e ▸ hE))]
    exact (hd E (by simp [hE])).2
theorem runM_sound (hm : P.follows .mixedOrders = true) (X : EnvT P) (rfs : List (RFT P)) (n : Nat) (fi : FI P) (B : Fr) (W : World) : ∀ (m : Nat) (path : List Nat) (c : Code) (ks : KS) (ρ : Env) (ds : List Nat) (B' : Fr) (W' : World) (a : Act) (w : World) (Q : Exit → Act → World → Prop), subC fi.body path = some c → MS B W ds B' W' →
    StS ρ ks.s B' ⟨W', ds.map mkD⟩ a w → (runM X rfs n fi m path ks).holds (fun r => ∀ ρ' ds' B2 W2 a' w', Env.le ρ ρ' → MS B W ds' B2 W2 → StS ρ' r.2.s B2 ⟨W2, ds'.map mkD⟩ a' w' → Q r.1.to a' w') → c.wpIn Fence.wide 0 P Q a w
  | 0, _, _, _, _, _, _, _, _, _, _, _, _, _, h => h.elim
  | m + 1, path, c, ks, ρ, ds, B', W', a, w, Q, hs, hms, hst, h => by
    simp only [runM, hs] at h
    split at h
    · exact execT_sound hm X n fi path c ks hs none ρ B' ⟨W', ds.map mkD⟩ a w Q trivial hst (h.mono fun r hr ρ' a' w' hle hst' => hr ρ' ds B' W' a' w' hle hms hst')
    · split at h
      · rename_i x y _
        obtain ⟨h1, h2⟩ := subC_seq hs
        rw [T.holds_bind] at h
        refine wpIn_seq (runM_sound hm X rfs n fi B W m (0 :: path) x ks ρ ds B' W' a w _ h1 hms hst (h.mono ?_))
        rintro ⟨e, ks'⟩ hr ρ' ds' B2 W2 a' w' hle hms' hst'
        cases e with
        | normal => exact runM_sound hm X rfs n fi B W m (1 :: path) y ks' ρ' ds' B2 W2 a' w' _ h2 hms' hst' (T.holds.mono hr fun r h2 ρ2 d2 B3 W3 a2 w2 g1 g2 g3 => h2 ρ2 d2 B3 W3 a2 w2 (hle.trans g1) g2 g3)
        | exit id => exact hr ρ' ds' B2 W2 a' w' hle hms' hst'
        | ret => exact hr ρ' ds' B2 W2 a' w' hle hms' hst'
      · rename_i x y z _
        have hv := evS_RV hst.sl x
        split at h
        case h_2 => exact h.elim
        rename_i t ht
        have ht : evS ks.s.rs.1 x = .bool t := ht
        rw [ht] at hv
        refine wpIn_cond (RV_bool hv) ?_
        cases t with
        | true => exact runM_sound hm X rfs n fi B W m (0 :: path) y ks ρ ds B' W' a w Q (by simp [subC, hs, child]) hms hst (h.1 rfl)
        | false => exact runM_sound hm X rfs n fi B W m (1 :: path) z ks ρ ds B' W' a w Q (by simp [subC, hs, child]) hms hst (h.2 rfl)
      · rename_i id x _
        rw [T.holds_bind] at h
        refine wpIn_block (runM_sound hm X rfs n fi B W m (0 :: path) x ks ρ ds B' W' a w _ (by simp [subC, hs, child]) hms hst (h.mono ?_))
        rintro ⟨e, ks'⟩ hr ρ' ds' B2 W2 a' w' hle hms' hst'
        cases e with
        | normal => exact hr ρ' ds' B2 W2 a' w' hle hms' hst'
        | exit id' =>
          simp only [Ex.to, Exit.inBlock]
          simp only at hr
          split at hr
          · rename_i hb
            rw [if_pos (Nat.eq_of_beq_eq_true hb)]
            exact hr ρ' ds' B2 W2 a' w' hle hms' hst'
          · rename_i hb
            rw [if_neg (fun e => by subst e; simp at hb)]
            exact hr ρ' ds' B2 W2 a' w' hle hms' hst'
        | ret => exact hr ρ' ds' B2 W2 a' w' hle hms' hst'
      · rename_i g0 ps0 as0 bd0 _
        split at h
        case h_2 => exact h.elim
        rename_i rf hrf
        obtain ⟨r1, r2⟩ := findRF_spec _ _ hrf
        rw [T.holds_bind] at h
        refine rf.ok fi _ _ _ _ r1.symm (by rw [r2]; exact hs) ks ρ B' ⟨W', ds.map mkD⟩ a w _ hst (h.mono ?_)
        intro ks' hr D ρ' w' hle' hD hst' hkeep hDe
        have hBw : ∀ i, B' i → i < w.heap.size := fun i hi => Nat.lt_of_lt_of_le (hst.rep.bnd i hi) hst.rep.below.size
        have hnd : D ∉ ds := fun hin => by have := hBw D (hms.dm D hin).1; omega
        refine hr ρ' (D :: ds) (fun i => B' i ∨ i = D) w' _ w' hle' ?_ hst'
        refine ⟨fun i hi => .inl (hms.sub i hi), hms.bnd, hms.keep.trans ((hst.rep.below.trans hkeep).mono hms.sub), ?_, List.nodup_cons.2 ⟨hnd, hms.nd⟩⟩
        intro E hE
        simp only [List.mem_cons] at hE
        rcases hE with rfl | hE
        · exact ⟨.inr rfl, fun hb => by have := hBw E (hms.sub E hb); omega, hDe⟩
        · obtain ⟨m1, m2, m3⟩ := hms.dm E hE
          exact ⟨.inl m1, m2, (hkeep.block E m1).trans ((hst.rep.below.block E m1).trans m3)⟩
      · exact h.elim
def callM (X : EnvT P) (rfs : List (RFT P)) (n m : Nat) (f : Nat) (args : List AV) (kns : List Bool) (H : Heap) (nk : Nat) (kh : List Bool) : T CR :=
  match findF f X.fis with
  | some fi => (runM X rfs n fi m [] ⟨⟨args ++ List.replicate (fi.fn.ntmps - args.length) .undef, H, nk⟩, kns, kh⟩).bind fun r => match r.1 with
    | .exit _ => .bad
    | _ => finM P fi.fn.results.toList r.2
  | none => .bad
theorem callM_sound (hm : P.follows .mixedOrders = true) (X : EnvT P) (rfs : List (RFT P)) (n m f : Nat) (args : List AV) (kns : List Bool) (H : Heap) (nk : Nat) (kh : List Bool) (ρ : Env) (B : Fr) (W w : World) (xs : List Value) (R : Value → World → Prop) (hrep : Rep ρ H B W w) (hargs : RV1s ρ args xs)
    (h : (callM X rfs n m f args kns H nk kh).holds (fun r => ∀ ρ' x w', Env.le ρ ρ' → RV ρ' r.v x → Rep ρ' r.H B W w' → R x w')) : CallOK P f xs.toArray w R := by
  unfold callM at h
  split at h
  case h_2 => exact h.elim
  rename_i fi hfi
  have hff := findF_spec _ _ hfi
  refine .inr ⟨by rw [← hff]; exact fi.hn _ _, ?_⟩
  rw [← hff]
  rw [T.holds_bind] at h
  refine (callsIn_wide (n := 0)).1 (callsIn_of_wp_marks fi.hf fi.hb trivial (runM_sound hm X rfs n fi B W m [] fi.body _ ρ [] B W _ w _ rfl ⟨fun _ h => h, hrep.bnd, Keep.refl _ _, by simp, List.nodup_nil⟩ ⟨?_, ?_, rfl, hrep⟩ (h.mono ?_)))
  · have := RV1s_slots args xs (fi.fn.ntmps - args.length) hargs
    have hl := RV1s_length _ _ hargs
    have e1 : (xs ++ List.replicate (fi.fn.ntmps - args.length) undef).toArray = xs.toArray ++ Array.replicate (fi.fn.ntmps - xs.toArray.size) undef := by simp [hl]
    rw [e1] at this
    exact this
  · have hl := RV1s_length _ _ hargs
    simp [hl, St.rs]
  · rintro ⟨e, ks'⟩ hr ρ' ds B' W' a' w' hle hms hst'
    have fin : (finM P fi.fn.results.toList ks').holds (fun r => ∀ ρ' x w', Env.le ρ ρ' → RV ρ' r.v x → Rep ρ' r.H B W w' → R x w') → LeavesInM Fence.wide 0 P fi.fn a'.tmps (fun e w' => ∃ x, e = .returned x ∧ R x w') a'.defers .returning w' := by
      intro hr
      unfold finM at hr
      split at hr
      case h_2 => exact hr.elim
      rename_i v hv
      rw [hst'.df]
      have hrep : Rep ρ' ks'.s.H B W w' := (hst'.rep.less hms.sub).rebase hms.keep hms.bnd
      have hmk : ∀ D ∈ ds, w'.heap[D]? = some (.deferred (some [])) := fun D hD => (hst'.rep.below.block D (hms.dm D hD).1).trans (hms.dm D hD).2.2
      refine leaves_marks ds w' hmk hms.nd ?_
      have hrep2 := Rep.shut ds w' (fun D hD => ⟨(hms.dm D hD).2.1, hmk D hD⟩) hms.nd hrep
      obtain ⟨z, hz, hzv⟩ := resAV_sound (W := ⟨W, a'.defers⟩) (fn := fi.fn) (show StS ρ' ks'.s B ⟨W, a'.defers⟩ a' (shut w' ds) from ⟨hst'.sl, hst'.len, rfl, hrep2⟩) hv
      exact ⟨z, hz, z, rfl, hr ρ' z _ hle hzv hrep2⟩
    cases e with
    | normal => exact fin hr
    | ret => exact fin hr
    | exit id => exact (hr : False).elim
/-- A contract out of the run of a function that holds ranges over functions. -/
theorem Pure.by_range (hm : P.follows .mixedOrders = true) (X : EnvT P) (rfs : List (RFT P)) (n m f : Nat) (args : List AV) {t : T AV} {v' : AV} (h : (callM X rfs n m f args [] [] 0 []).map CR.v = t) (ht : t.holds fun v => SameR v v') : Pure P f args v' := by
  intro xs w hx
  subst h
  rw [T.holds_map] at ht
  refine callM_sound hm X rfs n m f args [] [] 0 [] ρ0 (· < w.heap.size) w w xs _ (Rep.start w) hx (ht.mono ?_)
  intro r hr ρ' x w' _ hx' hrep
  exact ⟨hr ρ' x hx', hrep.below.below⟩
end
end Go.Proofs.Ytglcjmnkhmdlhaa

/- A strings.Builder in a function's text: the run of the code that writes into it. -/
namespace Go.Proofs.Ytglcjmnkhmdlhaa
open Go Go.RowKit
/-- What is known of strings.Builder: its type, its bytes' type, the three methods. -/
structure Bld (P : Program) where
  T : Nat
  e : Nat
  fB : Nat
  fS : Nat
  fO : Nat
  okS : Bool
  hB : ∀ xs w, (callFunc fB xs).run P w = .ok (.enter fB xs) w
  hS : okS = true → ∀ xs w, (callFunc fS xs).run P w = .ok (.enter fS xs) w
  hO : ∀ xs w, (callFunc fO xs).run P w = .ok (.enter fO xs) w
  wB : ∀ (b : Nat) (bs : List Value) (c : Int) (w : World), Lib.IsBuilder T e b b bs w → bs.length + 1 ≤ 140737488355328 → b ≤ w.heap.size → Calls P fB #[.pointer (some ⟨b, 0, none⟩), .int .u8 c] w fun x w' => (∃ v, x = .returned v) ∧ Lib.IsBuilder T e b b (bs ++ [.int .u8 c]) w' ∧ Below b w w'
  wS : okS = true → ∀ (b : Nat) (bs : List Value) (s : ByteArray) (w : World), Lib.IsBuilder T e b b bs w → bs.length + s.size ≤ 140737488355328 → b ≤ w.heap.size → Calls P fS #[.pointer (some ⟨b, 0, none⟩), .string s] w fun x w' => (∃ v, x = .returned v) ∧ Lib.IsBuilder T e b b (bs ++ Lib.strCells s) w' ∧ Below b w w'
  wO : ∀ (b : Nat) (l : List UInt8) (w : World), Lib.IsBuilder T e b b (Lib.byteCells l) w → b ≤ w.heap.size → Calls P fO #[.pointer (some ⟨b, 0, none⟩)] w fun x w' => x = .returned (.string ⟨l.toArray⟩) ∧ Below b w w'

theorem isBuilder_lt {T e B b : Nat} {bs : List Value} {w : World} (h : Lib.IsBuilder T e B b bs w) : b < w.heap.size := by
  rcases h with h | h
  · exact h.lt
  · exact h.lt
theorem isBuilder_keep {T e B b : Nat} {bs : List Value} {w w' : World} (h : Lib.IsBuilder T e B b bs w) (hk : ∀ i, B ≤ i → i < w.heap.size → w'.heap[i]? = w.heap[i]?) : Lib.IsBuilder T e B b bs w' := by
  have key : ∀ p, Lib.BuilderAt T e B b p bs w → Lib.BuilderAt T e B b p bs w' := by
    intro p hp
    have hlt := hp.lt
    obtain ⟨hB, v, hb, hown, hne⟩ := hp
    refine ⟨hB, v, by rw [hk b hB hlt]; exact hb, ?_, hne⟩
    obtain ⟨h1, h2⟩ := hown
    refine ⟨h1, ?_⟩
    rcases h2 with h2 | ⟨g, cap, cur, e1, e2, e3, e4⟩
    · exact .inl h2
    · refine .inr ⟨g, cap, cur, e1, e2, ?_, e4⟩
      rw [hk g e2 (heap_lt e3)]
      exact e3
  rcases h with h | h
  · exact .inl (key _ h)
  · exact .inr (key _ h)

/-- The bytes, as values. -/
def cellsI (bs : List Int) : List Value := bs.map (Value.int .u8)
def inByte (c : Int) : Bool := decide (0 ≤ c) && decide (c < 256)
theorem cellsI_bytes : ∀ (bs : List Int), bs.all inByte = true → cellsI bs = Lib.byteCells (bs.map fun n => UInt8.ofNat n.toNat)
  | [], _ => rfl
  | c :: bs, h => by
    simp only [List.all_cons, Bool.and_eq_true] at h
    have ih := cellsI_bytes bs h.2
    simp only [inByte, Bool.and_eq_true, decide_eq_true_eq] at h
    unfold cellsI Lib.byteCells at *
    simp only [List.map_cons, ih]
    congr 1
    congr 1
    have : (UInt8.ofNat c.toNat).toNat = c.toNat := by
      rw [UInt8.toNat_ofNat']
      omega
    rw [this]; omega
/-- Where the keys of a memory are. -/
def sameKeys : Heap → Heap → Bool
  | _, [] => true
  | [], none :: H' => sameKeys [] H'
  | [], some _ :: _ => false
  | none :: H, none :: H' => sameKeys H H'
  | none :: _, some _ :: _ => false
  | some _ :: H, _ :: H' => sameKeys H H'
theorem sameKeys_spec : ∀ (H H' : Heap), sameKeys H H' = true → ∀ k, hget H k = none → hget H' k = none
  | H, [], _, k, _ => hget_nil k
  | [], none :: H', h, 0, _ => rfl
  | [], none :: H', h, k + 1, _ => sameKeys_spec [] H' (by simpa [sameKeys] using h) k (hget_nil k)
  | [], some _ :: _, h, _, _ => by simp [sameKeys] at h
  | none :: H, none :: H', h, 0, _ => rfl
  | none :: H, none :: H', h, k + 1, hk => sameKeys_spec H H' (by simpa [sameKeys] using h) k hk
  | none :: _, some _ :: _, h, _, _ => by simp [sameKeys] at h
  | some b :: H, x :: H', h, 0, hk => by simp [hget] at hk
  | some b :: H, none :: H', h, k + 1, hk => sameKeys_spec H H' (by simpa [sameKeys] using h) k hk
  | some b :: H, some x :: H', h, k + 1, hk => sameKeys_spec H H' (by simpa [sameKeys] using h) k hk

section
variable {P : Program}
theorem Rep.keepB {ρ : Env} {H : Heap} {B : Fr} {W w w' : World} {n : Nat} (h : Rep ρ H B W w) (hρ : ∀ k c, ρ k = some c → c < n) (hB : ∀ i, B i → i < n) (hw : Below n w w') : Rep ρ H B W w' := by
  refine ⟨h.below.trans ⟨hw.os, hw.tape, hw.output, hw.size, fun k hk => hw.block k (hB k hk)⟩, h.bnd, ?_, h.inj, h.dom⟩
  intro k x hx
  obtain ⟨b, cs, mk, e1, e2, e3, e4⟩ := h.blk k x hx
  exact ⟨b, cs, mk, e1, by rw [hw.block b (hρ k b e1)]; exact e2, e3, e4⟩
/-- A state beside a builder 'b', which holds 'bs'. -/
structure StB (D : Bld P) (b : Nat) (ρ : Env) (s : St) (bs : Option (List Int)) (B : Fr) (W : WD) (a : Act) (w : World) : Prop where
  st : StS ρ s B W a w
  sz : b < w.heap.size
  bl : ∀ l, bs = some l → Lib.IsBuilder D.T D.e b b (cellsI l) w
  lo : ∀ k c, ρ k = some c → c < b
  fr : ∀ i, B i → i < b
theorem StB.wide {D : Bld P} {b : Nat} {ρ : Env} {s : St} {bs : Option (List Int)} {B : Fr} {W : WD} {a : Act} {w : World} (h : StB D b ρ s bs B W a w) : StS ρ s (fun i => B i ∨ (b ≤ i ∧ i < w.heap.size)) ⟨w, W.d⟩ a w := by
  have hlt := h.sz
  refine ⟨h.st.sl, h.st.len, h.st.df, Keep.refl _ _, ?_, ?_, h.st.rep.inj, h.st.rep.dom⟩
  · rintro i (hi | hi)
    · have h1 := h.fr i hi
      show i < w.heap.size
      omega
    · exact hi.2
  · intro k x hx
    obtain ⟨c, cs, mk, e1, e2, e3, e4⟩ := h.st.rep.blk k x hx
    refine ⟨c, cs, mk, e1, e2, e3, fun ho => ⟨?_, (e4 ho).2⟩⟩
    rintro (hh | hh)
    · exact (e4 ho).1 hh
    · have := h.lo k c e1; omega
theorem StB.back {D : Bld P} {b : Nat} {ρ ρ' : Env} {s s' : St} {bs : Option (List Int)} {B : Fr} {W : WD} {a a' : Act} {w w' : World} (h : StB D b ρ s bs B W a w) (hle : Env.le ρ ρ') (hk : sameKeys s.H s'.H = true)
    (h' : StS ρ' s' (fun i => B i ∨ (b ≤ i ∧ i < w.heap.size)) ⟨w, W.d⟩ a' w') : StB D b ρ' s' bs B W a' w' := by
  refine ⟨⟨h'.sl, h'.len, h'.df, ?_⟩, Nat.lt_of_lt_of_le h.sz h'.rep.below.size, ?_, ?_, h.fr⟩
  · exact (h'.rep.less (fun k hk => .inl hk)).rebase h.st.rep.below h.st.rep.bnd
  · exact fun l hl => isBuilder_keep (h.bl l hl) fun i h1 h2 => h'.rep.below.block i (.inr ⟨h1, h2⟩)
  · intro k c hc
    cases hg : hget s.H k with
    | none =>
      have := h'.rep.dom k (sameKeys_spec _ _ hk k hg)
      rw [hc] at this; simp at this
    | some x =>
      obtain ⟨c', cs, mk, e1, _⟩ := h.st.rep.blk k x hg
      have := hle k c' e1
      rw [hc] at this
      simp at this; subst this
      exact h.lo k c e1

/-- Is the operation a call of one of the builder's methods? -/
inductive BC where
  | byte (c : Int)
  | text (s : ByteArray)
  | out
def ptrB : AV → Option Nat
  | .raw v => match v with
    | .pointer (some ad) => match Nat.beq ad.off 0, ad.spot with
      | true, none => some ad.block
      | _, _ => none
    | _ => none
  | _ => none
theorem ptrB_eq {v : AV} {b : Nat} (h : ptrB v = some b) : v = .raw (.pointer (some ⟨b, 0, none⟩)) := by
  unfold ptrB at h
  split at h <;> try contradiction
  split at h <;> try contradiction
  rename_i ad
  split at h <;> try contradiction
  rename_i h1 h2
  simp at h; subst h
  have h1 := Nat.eq_of_beq_eq_true h1
  cases ad
  simp only at h1 h2
  subst h1 h2
  rfl
def bcall (D : Bld P) (ss : List AV) (o : Oper) : Option (BC × Nat) :=
  match o.op, o.guard with
  | .call c, none => match c.callee with
    | .value (.func f) => match evArgs P ss c.argTypes.toList c.args.toList with
      | [x, y] => match ptrB x, y with
        | some b, .int .u8 n => match Nat.beq f D.fB with
          | true => some (.byte n, b)
          | false => none
        | some b, .str s => match Nat.beq f D.fS && D.okS with
          | true => some (.text s, b)
          | false => none
        | _, _ => none
      | [x] => match ptrB x with
        | some b => match Nat.beq f D.fO with
          | true => some (.out, b)
          | false => none
        | none => none
      | _ => none
    | _ => none
  | _, _ => none
def strI (s : ByteArray) : List Int := s.data.toList.map fun b => (b.toNat : Int)
theorem strI_cells (s : ByteArray) : cellsI (strI s) = Lib.strCells s := by
  unfold cellsI strI Lib.strCells
  simp

abbrev ResB := T (Ex × KS × Option (List Int))
def runOpsB (D : Bld P) (b : Nat) (cs : List (Ctr P)) (cal : CalT) (ops : List Oper) : List Oper → KS → Option (List Int) → T (KS × Option (List Int))
  | [], ks, bs => .leaf (ks, bs)
  | o :: l, ks, bs => match bcall D ks.s.ss o with
    | some (k, b') => match bs with
      | some bs => .need (Nat.beq b' b) (match k with
        | .byte c => .need (Nat.ble (bs.length + 1) 140737488355328) (runOpsB D b cs cal ops l ⟨⟨sput ks.s.ss o.dst .any, ks.s.H, ks.s.nk⟩, ks.kn, ks.kh⟩ (some (bs ++ [c])))
        | .text s => .need (Nat.ble (bs.length + s.size) 140737488355328) (runOpsB D b cs cal ops l ⟨⟨sput ks.s.ss o.dst .any, ks.s.H, ks.s.nk⟩, ks.kn, ks.kh⟩ (some (bs ++ strI s)))
        | .out => .need (bs.all inByte) (runOpsB D b cs cal ops l ⟨⟨sput ks.s.ss o.dst (.str (bytesOf bs)), ks.s.H, ks.s.nk⟩, ks.kn, ks.kh⟩ none))
      | none => .bad
    | none => (runOpsT P cs cal none ops [o] ks []).bind fun ks' => match sameKeys ks.s.H ks'.s.H with
      | true => runOpsB D b cs cal ops l ks' bs
      | false => .bad
theorem bcall_inv {D : Bld P} {ss : List AV} {o : Oper} {k : BC} {b : Nat} (h : bcall D ss o = some (k, b)) : ∃ (c : Call) (f : Nat), o.op = .call c ∧ o.guard = none ∧ c.callee = .value (.func f) ∧
    ((∃ n, k = .byte n ∧ f = D.fB ∧ evArgs P ss c.argTypes.toList c.args.toList = [.raw (.pointer (some ⟨b, 0, none⟩)), .int .u8 n]) ∨
     (∃ s, k = .text s ∧ (f = D.fS ∧ D.okS = true) ∧ evArgs P ss c.argTypes.toList c.args.toList = [.raw (.pointer (some ⟨b, 0, none⟩)), .str s]) ∨
     (k = .out ∧ f = D.fO ∧ evArgs P ss c.argTypes.toList c.args.toList = [.raw (.pointer (some ⟨b, 0, none⟩))])) := by
  unfold bcall at h
  split at h <;> try contradiction
  rename_i c ho hg
  split at h <;> try contradiction
  rename_i f hc
  refine ⟨c, f, ho, hg, hc, ?_⟩
  split at h <;> try contradiction
  · rename_i x y he
    split at h <;> try contradiction
    · rename_i b' n hx
      split at h <;> try contradiction
      rename_i hf
      simp at h
      obtain ⟨rfl, rfl⟩ := h
      exact .inl ⟨n, rfl, Nat.eq_of_beq_eq_true hf, by rw [he, ptrB_eq hx]⟩
    · rename_i b' s hx
      split at h <;> try contradiction
      rename_i hf
      simp at h
      obtain ⟨rfl, rfl⟩ := h
      simp only [Bool.and_eq_true] at hf
      exact .inr (.inl ⟨s, rfl, ⟨Nat.eq_of_beq_eq_true hf.1, hf.2⟩, by rw [he, ptrB_eq hx]⟩)
  · rename_i x he
    split at h <;> try contradiction
    rename_i b' hx
    split at h <;> try contradiction
    rename_i hf
    simp at h
    obtain ⟨rfl, rfl⟩ := h
    exact .inr (.inr ⟨rfl, Nat.eq_of_beq_eq_true hf, by rw [he, ptrB_eq hx]⟩)
theorem wpOpIn_exits {F : Fence} {n : Nat} {ops : Array Oper} {Q Q' : Exit → Act → World → Prop} {i : Nat} {K : Act → World → Prop} {a : Act} {w : World} (hq : ∀ e a w, e ≠ .normal → Q e a w → Q' e a w) (h : wpOpIn F n P ops Q i K a w) : wpOpIn F n P ops Q' i K a w := by
  unfold wpOpIn at h ⊢
  split at h
  · exact h
  · split at h
    · rename_i o _ hw
      rw [if_pos hw]
      unfold Oper.wpIn at h ⊢
      refine ⟨h.1, ?_⟩
      have h := h.2
      generalize (o.semAt F.round a.eval).run P w = r at *
      have out : LetsOut Q → LetsOut Q' := fun ⟨a, w, h⟩ => ⟨a, w, hq _ _ _ (by simp) h⟩
      cases r with
      | ok x w' =>
        cases x <;> simp only [Oper.uponIn] at h ⊢ <;>
          first
            | exact h
            | exact ⟨h.1, CallsIn.mono h.2 (fun e w'' he => by cases e <;> first | exact he | exact hq _ _ _ (by simp) he | exact out he)⟩
            | exact ⟨h.1, RoundIn.mono h.2 (fun e w'' he => by cases e <;> first | exact he | exact hq _ _ _ (by simp) he | exact out he)⟩
      | halt x w' => cases x <;> simp only [Oper.uponIn] at h ⊢ <;> first | exact h | exact hq _ _ _ (by simp) h
    · rename_i o _ hw
      rw [if_neg hw]
      exact h
theorem runOpsB_sound (D : Bld P) {b : Nat} {cs : List (Ctr P)} {cal : CalT} (hcal : CalTOK P CT.none cal) {r : Option Nat} {ops : Array Oper} : ∀ (l : List Oper) (i : Nat) (ks : KS) (bs : Option (List Int)), (∀ j x, l[j]? = some x → ops.toList[i + j]? = some x) → ∀ (ρ : Env) (B : Fr) (W : WD) (a : Act) (w : World) (Q : Exit → Act → World → Prop), StB D b ρ ks.s bs B W a w →
    (runOpsB D b cs cal ops.toList l ks bs).holds (fun x => ∀ ρ' a' w', Env.le ρ ρ' → StB D b ρ' x.1.s x.2 B W a' w' → Q .normal a' w') → wpOpsIn (FR r) 0 P ops Q (List.range' i l.length) a w
  | [], i, ks, bs, _, ρ, B, W, a, w, Q, hst, h => h ρ a w (Env.le.refl ρ) hst
  | o :: l, i, ks, bs, hl, ρ, B, W, a, w, Q, hst, h => by
    have ho : ops.toList[i]? = some o := hl 0 o (by simp)
    have ho' : ops[i]? = some o := by simpa using ho
    have hl' : ∀ j x, l[j]? = some x → ops.toList[i + 1 + j]? = some x := fun j x hx => by have := hl (j + 1) x (by simpa using hx); rw [← this]; congr 1; omega
    rw [List.length_cons, List.range'_succ, wpOpsIn_cons]
    simp only [runOpsB] at h
    have hlt := hst.sz
    split at h
    · rename_i k b' hbc
      split at h
      case h_2 => exact h.elim
      rename_i bs
      have hbl := hst.bl bs rfl
      obtain ⟨hb, h⟩ := h
      have hb := Nat.eq_of_beq_eq_true hb
      subst hb
      obtain ⟨c, f, hop, hg, hcb, hk⟩ := bcall_inv hbc
      have hd : ∀ c, o.op ≠ .defer c := by intro c' h'; rw [hop] at h'; cases h'
      have hfe : a.eval (.func f) = .func (.func f) #[] ([] : List Value).toArray := rfl
      have hrun := call_run (a := a) hop hcb hfe
      simp only [List.append_nil] at hrun
      have goal : ∀ (f' : Nat) (R : Value → World → Prop), f = f' → CallOK P f' (c.args.toList.map a.eval).toArray w R → (∀ x w', R x w' → wpOpsIn (FR r) 0 P ops Q (List.range' (i + 1) l.length) (a.put o.dst x) w') → wpOpIn (FR r) 0 P ops Q i (wpOpsIn (FR r) 0 P ops Q (List.range' (i + 1) l.length)) a w := by
        intro f' R hf hc hK
        subst hf
        unfold wpOpIn
        rw [ho']
        simp only
        rw [if_pos (wanted_none hg)]
        exact wpIn_of_call hd hrun hc hK
      have next : ∀ (v : AV) (x : Value) (bs' : Option (List Int)) (w' : World), RV ρ v x → (∀ l, bs' = some l → Lib.IsBuilder D.T D.e b' b' (cellsI l) w') → Below b' w w' → w.heap.size ≤ w'.heap.size →
          (runOpsB D b' cs cal ops.toList l ⟨⟨sput ks.s.ss o.dst v, ks.s.H, ks.s.nk⟩, ks.kn, ks.kh⟩ bs').holds (fun x => ∀ ρ' a' w', Env.le ρ ρ' → StB D b' ρ' x.1.s x.2 B W a' w' → Q .normal a' w') → wpOpsIn (FR r) 0 P ops Q (List.range' (i + 1) l.length) (a.put o.dst x) w' := by
        intro v x bs' w' hv hbl' hbw hsz hh
        obtain ⟨p1, p2⟩ := hst.st.sl.put hst.st.len o.dst hv
        refine runOpsB_sound D hcal l (i + 1) ⟨⟨sput ks.s.ss o.dst v, ks.s.H, ks.s.nk⟩, ks.kn, ks.kh⟩ bs' hl' ρ B W _ w' Q ⟨⟨p1, p2, ?_, hst.st.rep.keepB hst.lo hst.fr hbw⟩, by omega, hbl', hst.lo, hst.fr⟩ hh
        have : (a.put o.dst x).defers = a.defers := by cases o.dst <;> rfl
        rw [this]; exact hst.st.df
      rcases hk with ⟨n, rfl, rfl, he⟩ | ⟨s, rfl, ⟨rfl, hok⟩, he⟩ | ⟨rfl, rfl, he⟩
      · obtain ⟨h1, h2⟩ := h
        have hargs := evArgs_RV (P := P) (a := a) hst.st.sl c.argTypes.toList c.args.toList (by show (evArgs P ks.s.ss _ _).all _ = true; rw [he]; rfl)
        have he : evArgs P (ks.s.rs).1 c.argTypes.toList c.args.toList = _ := he
        rw [he] at hargs
        simp only [RV1s, RV1, RC] at hargs
        obtain ⟨x1, y1, ⟨_, e1⟩, ⟨x2, y2, e2, e3, e4⟩, e5⟩ := hargs
        simp at e1 e2
        subst e3 e1 e2
        subst e4
        rw [e5] at goal
        refine goal _ (fun _ w' => Lib.IsBuilder D.T D.e b' b' (cellsI (bs ++ [n])) w' ∧ Below b' w w') rfl (.inr ⟨D.hB _ _, (D.wB b' (cellsI bs) n w hbl ?_ (by omega)).mono ?_⟩) ?_
        · have := Nat.le_of_ble_eq_true h1
          simpa [cellsI] using this
        · rintro e w' ⟨⟨v, rfl⟩, q1, q2⟩
          exact ⟨v, rfl, by simpa [cellsI] using q1, q2⟩
        · rintro x w' ⟨q1, q2⟩
          exact next .any x (some (bs ++ [n])) w' trivial (by rintro l ⟨⟩; exact q1) q2 q2.size h2
      · obtain ⟨h1, h2⟩ := h
        have hargs := evArgs_RV (P := P) (a := a) hst.st.sl c.argTypes.toList c.args.toList (by show (evArgs P ks.s.ss _ _).all _ = true; rw [he]; rfl)
        have he : evArgs P (ks.s.rs).1 c.argTypes.toList c.args.toList = _ := he
        rw [he] at hargs
        simp only [RV1s, RV1, RC] at hargs
        obtain ⟨x1, y1, ⟨_, e1⟩, ⟨x2, y2, e2, e3, e4⟩, e5⟩ := hargs
        simp at e1 e2
        subst e3 e1 e2
        subst e4
        rw [e5] at goal
        refine goal _ (fun _ w' => Lib.IsBuilder D.T D.e b' b' (cellsI (bs ++ strI s)) w' ∧ Below b' w w') rfl (.inr ⟨D.hS hok _ _, (D.wS hok b' (cellsI bs) s w hbl ?_ (by omega)).mono ?_⟩) ?_
        · have := Nat.le_of_ble_eq_true h1
          simpa [cellsI] using this
        · rintro e w' ⟨⟨v, rfl⟩, q1, q2⟩
          refine ⟨v, rfl, ?_, q2⟩
          have : cellsI (bs ++ strI s) = cellsI bs ++ Lib.strCells s := by rw [← strI_cells]; simp [cellsI]
          rw [this]; exact q1
        · rintro x w' ⟨q1, q2⟩
          exact next .any x (some (bs ++ strI s)) w' trivial (by rintro l ⟨⟩; exact q1) q2 q2.size h2
      · obtain ⟨h1, h2⟩ := h
        have hargs := evArgs_RV (P := P) (a := a) hst.st.sl c.argTypes.toList c.args.toList (by show (evArgs P ks.s.ss _ _).all _ = true; rw [he]; rfl)
        have he : evArgs P (ks.s.rs).1 c.argTypes.toList c.args.toList = _ := he
        rw [he] at hargs
        simp only [RV1s, RV1, RC] at hargs
        obtain ⟨x1, y1, ⟨_, e1⟩, e4, e5⟩ := hargs
        simp at e1
        subst e1 e4
        rw [e5] at goal
        rw [cellsI_bytes bs h1] at hbl
        refine goal _ (fun x w' => x = .string (bytesOf bs) ∧ Below b' w w') rfl (.inr ⟨D.hO _ _, (D.wO b' _ w hbl (by omega)).mono ?_⟩) ?_
        · rintro e w' ⟨rfl, q2⟩
          exact ⟨_, rfl, rfl, q2⟩
        · rintro x w' ⟨rfl, q2⟩
          exact next (.str (bytesOf bs)) _ none w' (by simp only [RV, RV1, RC]) (by rintro l ⟨⟩) q2 q2.size h2
    · rename_i hbc
      rw [T.holds_bind] at h
      refine wpOpIn_exits (Q := fun e a' w' => match e with | .normal => wpOpsIn (FR r) 0 P ops Q (List.range' (i + 1) l.length) a' w' | e => Q e a' w') (fun e a w hne hq => by cases e <;> first | exact absurd rfl hne | exact hq) ?_
      have := runOpsT_sound (P := P) (C := CT.none) (yl := none) hcal trivial (r := r) (ops := ops) [o] i ks [] (fun j x hx => by
        cases j with
        | zero => simp at hx; subst hx; exact ho
        | succ j => simp at hx) ρ _ _ a w (fun e a' w' => match e with | .normal => wpOpsIn (FR r) 0 P ops Q (List.range' (i + 1) l.length) a' w' | e => Q e a' w') trivial hst.wide (DecOK.nil _) (h.mono ?_)
      · simpa [wpOpsIn_cons, wpOpsIn] using this
      · intro ks' hr ρ' a' w' hle hst'
        split at hr
        case h_2 => exact hr.elim
        rename_i hsk
        exact runOpsB_sound D hcal l (i + 1) ks' bs hl' ρ' B W a' w' Q (hst.back hle hsk hst') (hr.mono fun x hx ρ2 a2 w2 g1 g2 => hx ρ2 a2 w2 (hle.trans g1) g2)
/-- A region whose order is drawn, its last operation a call of the builder's. -/
def drawnB (D : Bld P) (b : Nat) (cs : List (Ctr P)) (cal : CalT) (ops : Array Oper) (ks : KS) (bs : Option (List Int)) : T (KS × Option (List Int)) :=
  (drawT P cs ops.toList ks.s.nk 0 ops.toList.dropLast ks [] []).bind fun r => match ops.toList.getLast? with
    | some o => match allOn 0 ops.toList && (pairsOK ops (masks ops.toList []) r.1 && allBef (masks ops.toList []) ops.toList.dropLast.length) && sameKeys ks.s.H r.2.s.H with
      | true => runOpsB D b cs cal ops.toList [o] ⟨⟨r.2.s.ss, r.2.s.H, ks.s.nk + ops.toList.length⟩, r.2.kn, r.2.kh⟩ bs
      | false => .bad
    | none => .bad
end
end Go.Proofs.Ytglcjmnkhmdlhaa

/- A strings.Builder in a function's text: from where it is made on. -/
namespace Go.Proofs.Ytglcjmnkhmdlhaa
open Go Go.RowKit
section
variable {P : Program}
theorem drawnB_sound (hm : P.follows .mixedOrders = true) (D : Bld P) {b : Nat} {cs : List (Ctr P)} {cal : CalT} (hcal : CalTOK P CT.none cal) {r : Option Nat} {ops : Array Oper} {ks : KS} {bs : Option (List Int)} {id : Nat} {ρ : Env} {B : Fr} {W : WD} {a : Act} {w : World} {Q : Exit → Act → World → Prop} (hst : StB D b ρ ks.s bs B W a w)
    (h : (drawnB D b cs cal ops ks bs).holds fun x => ∀ ρ' a' w', Env.le ρ ρ' → StB D b ρ' x.1.s x.2 B W a' w' → Q .normal a' w') : (Code.region id ops true).wpIn (FR r) 0 P Q a w := by
  unfold drawnB at h
  rw [T.holds_bind] at h
  have hdl : ∀ (j : Nat) (x : Oper), ops.toList.dropLast[j]? = some x → ops.toList[0 + j]? = some x := by
    intro j x hx
    rw [List.getElem?_dropLast] at hx
    split at hx
    · simpa using hx
    · simp at hx
  obtain ⟨L, ks', h1, hrun, hob, hmap⟩ := drawT_spec (s0 := ks.s.rs) ops.toList.dropLast 0 ks [] [] hdl h (DecOK.nil _) rfl (by simp) rfl
  split at h1
  case h_2 => exact h1.elim
  rename_i o ho
  split at h1
  case h_2 => exact h1.elim
  rename_i hc
  simp only [Bool.and_eq_true] at hc
  obtain ⟨⟨hc1, hc2, hc3⟩, hsk⟩ := hc
  refine wpIn_region_any hm ?_
  have hms : ∀ k i, (nth0 (masks ops.toList []) k).testBit i = true → Bef ops i k := masks_spec (ops := ops) ops.toList [] (fun j o h => by simpa using h) (fun k i h => by simp [nth0] at h)
  obtain ⟨z, hz⟩ : ∃ z, ops.toList.dropLast.length = z := ⟨_, rfl⟩
  rw [hz] at hc3
  have hsize : ops.size = z + 1 := by
    have : ops.toList ≠ [] := by intro e; rw [e] at ho; simp at ho
    have h2 : 0 < ops.toList.length := List.length_pos_iff.2 this
    simp at hz h2
    omega
  have hlen : L.length = z := by have := congrArg List.length hmap; simp at this hz; omega
  have hoz : ops.toList[z]? = some o := by
    rw [List.getLast?_eq_getElem?] at ho
    have : z = ops.toList.length - 1 := by simp at hz ⊢; omega
    rw [this]; exact ho
  rw [show ops.size = z + 1 from hsize]
  have hmem : ∀ q ∈ L, q.1 < z := by
    intro q hq1
    have hm1 : q.1 ∈ L.map (·.1) := List.mem_map_of_mem hq1
    rw [hmap] at hm1
    have := List.mem_range'_1.1 hm1
    omega
  have hw := hst.wide
  refine run_anyL (z := z) (by omega) (fun i hi hne => by omega) (fun j o e ho he hb => by have := allOn_spec ops.toList 0 hc1 j o (by simpa using ho) e he hb; omega) ks'.s.rs z L _ ks.s.rs ρ a _ hlen hrun hob (by simp [hsize]) (pairsOK_spec hms L 0 _ hmap hc2) ?_ ?_ ?_ ?_ (StR.drew hw) ?_
  · intro q hq1
    have hlt := hmem q hq1
    refine ⟨hms _ _ ?_, by omega⟩
    exact List.all_eq_true.1 hc3 q.1 (List.mem_range.2 hlt)
  · intro j hj
    constructor
    · intro _
      by_cases e : j = z
      · exact .inr e
      · have hm1 : j ∈ L.map (·.1) := by rw [hmap]; simp [List.mem_range'_1]; omega
        obtain ⟨q, hq1, hq2⟩ := List.mem_map.1 hm1
        exact .inl ⟨q, hq1, hq2⟩
    · intro _; rw [Array.getD_eq_getD_getElem?, Array.getElem?_replicate, if_pos (by omega)]; rfl
  · intro q hq1
    have := hmem q hq1; omega
  · intro i j hlis _
    simp [Array.getD_eq_getD_getElem?, Array.getElem?_replicate] at hlis
    split at hlis <;> simp at hlis
  · intro ρ' a' w' hle hst'
    have := runOpsB_sound D (b := b) (cs := cs) hcal (r := r) (ops := ops) [o] z ⟨⟨ks'.s.ss, ks'.s.H, ks.s.nk + ops.toList.length⟩, ks'.kn, ks'.kh⟩ bs (fun j x hx => by
      cases j with
      | zero => simp at hx; subst hx; exact hoz
      | succ j => simp at hx) ρ' B W a' w' Q (hst.back hle hsk hst') (h1.mono fun k hk ρ2 a2 w2 g1 g2 => hk ρ2 a2 w2 (hle.trans g1) g2)
    simpa [wpOpsIn_cons, wpOpsIn] using this

/-- Is the last operation a call of one of the builder's methods? -/
def lastB (D : Bld P) (ops : Array Oper) : Bool :=
  match ops.toList.getLast? with
  | some o => match o.op with
    | .call c => match c.callee with
      | .value (.func f) => Nat.beq f D.fB || (Nat.beq f D.fS || Nat.beq f D.fO)
      | _ => false
    | _ => false
  | none => false
def loopB (body : KS → Option (List Int) → ResB) : Nat → KS → Option (List Int) → ResB
  | 0, _, _ => .bad
  | n + 1, ks, bs => (body ks bs).bind fun r => match r.1 with
    | .normal => loopB body n r.2.1 r.2.2
    | _ => .leaf r
def execB (D : Bld P) (X : EnvT P) (n b : Nat) (fi : FI P) : Nat → List Nat → Code → KS → Option (List Int) → ResB
  | 0, _, _, _, _ => .bad
  | m + 1, path, c, ks, bs => match c with
    | .skip => .leaf (.normal, ks, bs)
    | .label _ => .leaf (.normal, ks, bs)
    | .ret => .leaf (.ret, ks, bs)
    | .exit id => .leaf (.exit id, ks, bs)
    | .region _ ops draw => match draw with
      | false => (runOpsB D b X.cs (callT X (execT X n)) ops.toList ops.toList ks bs).map fun x => (.normal, x)
      | true => match lastB D ops with
        | true => (drawnB D b X.cs (callT X (execT X n)) ops ks bs).map fun x => (.normal, x)
        | false => (drawnT P X.cs ops ks).bind fun ks' => match sameKeys ks.s.H ks'.s.H with
          | true => .leaf (.normal, ks', bs)
          | false => .bad
    | .seq x y => (execB D X n b fi m (0 :: path) x ks bs).bind fun r => match r.1 with
      | .normal => execB D X n b fi m (1 :: path) y r.2.1 r.2.2
      | _ => .leaf r
    | .cond x y z => match evS ks.s.ss x with
      | .bool t => match knO ks x with
        | true => match t with
          | true => execB D X n b fi m (0 :: path) y ks bs
          | false => execB D X n b fi m (1 :: path) z ks bs
        | false => .ite t (execB D X n b fi m (0 :: path) y ks bs) (execB D X n b fi m (1 :: path) z ks bs)
      | _ => .bad
    | .block id x => (execB D X n b fi m (0 :: path) x ks bs).bind fun r => match r.1 with
      | .exit id' => match Nat.beq id' id with
        | true => .leaf (.normal, r.2)
        | false => .leaf r
      | _ => .leaf r
    | .loop x => loopB (fun ks bs => execB D X n b fi m (0 :: path) x ks bs) m ks bs
    | _ => .bad
def CodeB (D : Bld P) (b : Nat) (c : Code) (ks : KS) (bs : Option (List Int)) (t : ResB) : Prop :=
  ∀ (r : Option Nat) (ρ : Env) (B : Fr) (W : WD) (a : Act) (w : World) (Q : Exit → Act → World → Prop), StB D b ρ ks.s bs B W a w →
    (t.holds fun x => ∀ ρ' a' w', Env.le ρ ρ' → StB D b ρ' x.2.1.s x.2.2 B W a' w' → Q x.1.to a' w') → c.wpIn (FR r) 0 P Q a w
theorem loopB_sound {D : Bld P} {b : Nat} {c : Code} {body : KS → Option (List Int) → ResB} (hb : ∀ ks bs, CodeB D b c ks bs (body ks bs)) {r : Option Nat} : ∀ (n : Nat) (ks : KS) (bs : Option (List Int)) (ρ : Env) (B : Fr) (W : WD) (a : Act) (w : World) (Q : Exit → Act → World → Prop), StB D b ρ ks.s bs B W a w →
    ((loopB body n ks bs).holds fun x => ∀ ρ' a' w', Env.le ρ ρ' → StB D b ρ' x.2.1.s x.2.2 B W a' w' → Q x.1.to a' w') → Code.roundsIn (FR r) 0 P c Q n a w
  | 0, ks, bs, ρ, B, W, a, w, Q, _, h => h.elim
  | n + 1, ks, bs, ρ, B, W, a, w, Q, hst, h => by
    rw [roundsIn_succ]
    simp only [loopB] at h
    rw [T.holds_bind] at h
    refine hb ks bs r ρ B W a w _ hst (h.mono ?_)
    rintro ⟨e, ks', bs'⟩ hr ρ' a' w' hle hst'
    cases e with
    | normal => exact loopB_sound hb n ks' bs' ρ' B W a' w' Q hst' (T.holds.mono hr fun r h2 ρ2 a2 w2 h3 h4 => h2 ρ2 a2 w2 (hle.trans h3) h4)
    | exit id => exact hr ρ' a' w' hle hst'
    | ret => exact hr ρ' a' w' hle hst'
theorem execB_sound (hm : P.follows .mixedOrders = true) (D : Bld P) (X : EnvT P) (n b : Nat) (fi : FI P) : ∀ (m : Nat) (path : List Nat) (c : Code) (ks : KS) (bs : Option (List Int)), CodeB D b c ks bs (execB D X n b fi m path c ks bs)
  | 0, _, _, _, _ => fun _ _ _ _ _ _ _ _ h => h.elim
  | m + 1, path, c, ks, bs => by
    have ih := execB_sound hm D X n b fi m
    have hcal : CalTOK P CT.none (callT X (execT X n)) := callT_sound (execT_sound hm X n)
    intro r ρ B W ac w Q hst h
    unfold execB at h
    cases c with
    | skip => exact wpIn_skip (h ρ ac w (Env.le.refl ρ) hst)
    | label l => exact wpIn_label (h ρ ac w (Env.le.refl ρ) hst)
    | ret => exact wpIn_ret (h ρ ac w (Env.le.refl ρ) hst)
    | exit id => exact wpIn_exit (h ρ ac w (Env.le.refl ρ) hst)
    | region id ops draw =>
      cases draw with
      | false =>
        simp only [T.holds_map] at h
        refine wpIn_region ?_
        rw [List.range_eq_range', ← Array.length_toList]
        exact runOpsB_sound D hcal ops.toList 0 ks bs (fun j x h => by simpa using h) ρ B W ac w Q hst h
      | true =>
        simp only at h
        split at h
        · simp only [T.holds_map] at h
          exact drawnB_sound hm D hcal hst h
        · rw [T.holds_bind] at h
          refine drawnT_sound hm hst.wide (h.mono ?_)
          intro ks' hr ρ' a' w' hle hst'
          split at hr
          case h_2 => exact hr.elim
          rename_i hsk
          exact hr ρ' a' w' hle (hst.back hle hsk hst')
    | seq x y =>
      simp only at h
      rw [T.holds_bind] at h
      refine wpIn_seq (ih (0 :: path) x ks bs r ρ B W ac w _ hst (h.mono ?_))
      rintro ⟨e, ks', bs'⟩ hr ρ' a' w' hle hst'
      cases e with
      | normal => exact ih (1 :: path) y ks' bs' r ρ' B W a' w' Q hst' (T.holds.mono hr fun r h2 ρ2 a2 w2 h3 h4 => h2 ρ2 a2 w2 (hle.trans h3) h4)
      | exit id => exact hr ρ' a' w' hle hst'
      | ret => exact hr ρ' a' w' hle hst'
    | cond x y z =>
      simp only at h
      have hv := evS_RV hst.st.sl x
      split at h
      case h_2 => exact h.elim
      rename_i t ht
      have ht : evS ks.s.rs.1 x = .bool t := ht
      rw [ht] at hv
      refine wpIn_cond (RV_bool hv) ?_
      split at h
      · cases t with
        | true => exact ih (0 :: path) y ks bs r ρ B W ac w Q hst h
        | false => exact ih (1 :: path) z ks bs r ρ B W ac w Q hst h
      · cases t with
        | true => exact ih (0 :: path) y ks bs r ρ B W ac w Q hst (h.1 rfl)
        | false => exact ih (1 :: path) z ks bs r ρ B W ac w Q hst (h.2 rfl)
    | block id x =>
      simp only at h
      rw [T.holds_bind] at h
      refine wpIn_block (ih (0 :: path) x ks bs r ρ B W ac w _ hst (h.mono ?_))
      rintro ⟨e, ks', bs'⟩ hr ρ' a' w' hle hst'
      cases e with
      | normal => exact hr ρ' a' w' hle hst'
      | exit id' =>
        simp only [Ex.to, Exit.inBlock]
        simp only at hr
        split at hr
        · rename_i hb
          rw [if_pos (Nat.eq_of_beq_eq_true hb)]
          exact hr ρ' a' w' hle hst'
        · rename_i hb
          rw [if_neg (fun e => by subst e; simp at hb)]
          exact hr ρ' a' w' hle hst'
      | ret => exact hr ρ' a' w' hle hst'
    | loop x =>
      simp only at h
      exact wpIn_loop_rounds m (loopB_sound (c := x) (fun ks bs => ih (0 :: path) x ks bs) m ks bs ρ B W ac w Q hst h)
    | _ => exact h.elim

/-- The text from where the builder is made on. -/
def tailB (D : Bld P) (X : EnvT P) (n m b : Nat) (fi : FI P) (path : List Nat) (ks : KS) : ResB :=
  match subC fi.body path with
  | some (.seq (.region _ ops false) rest) => match ops.toList with
    | [o] => match o.op, o.guard, o.dst with
      | .alloc T', none, some t => match Nat.beq T' D.T with
        | true => execB D X n b fi m (1 :: path) rest ⟨⟨sset ks.s.ss t (.raw (.pointer (some ⟨b, 0, none⟩))), ks.s.H, ks.s.nk⟩, ks.kn, ks.kh⟩ (some [])
        | false => .bad
      | _, _, _ => .bad
    | _ => .bad
  | _ => .bad
theorem tailB_sound (hm : P.follows .mixedOrders = true) (D : Bld P) (hz : (zeroValue D.T).run P = fun w => .ok (.agg #[.pointer none, .slice none 0 0]) w) (X : EnvT P) (n m : Nat) (fi : FI P) (path : List Nat) {c : Code} (hs : subC fi.body path = some c) (ks : KS) {r : Option Nat} {ρ : Env} {B : Fr} {W : WD} {a : Act} {w : World} {Q : Exit → Act → World → Prop} (hst : StS ρ ks.s B W a w)
    (h : (tailB D X n m w.heap.size fi path ks).holds fun x => ∀ ρ' a' w', Env.le ρ ρ' → StS ρ' x.2.1.s B W a' w' → Q x.1.to a' w') : c.wpIn (FR r) 0 P Q a w := by
  unfold tailB at h
  rw [hs] at h
  split at h
  case h_2 => exact h.elim
  rename_i id ops rest hc
  simp at hc
  subst hc
  split at h
  case h_2 => exact h.elim
  rename_i o hops
  have eo : ops = #[o] := by cases ops; simp_all
  subst eo
  split at h
  case h_2 => exact h.elim
  rename_i T' t ho hg hd
  split at h
  case h_2 => exact h.elim
  rename_i hT
  have hT := Nat.eq_of_beq_eq_true hT
  subst hT
  refine wpIn_seq (wpIn_region ?_)
  show wpOpsIn (FR r) 0 P #[o] _ [0] a w
  rw [wpOpsIn_cons]
  unfold wpOpIn
  simp only [List.getElem?_toArray, List.getElem?_cons_zero, wanted_none hg, if_true]
  unfold Oper.wpIn
  refine ⟨fun _ _ => trivial, ?_⟩
  have hrun : (execOp a.eval o).run P w = .ok (.value (.pointer (some ⟨w.heap.size, 0, none⟩))) (w.alloc (.cells #[.pointer none, .slice none 0 0] D.T)) := by
    have := congrFun hz w
    simp [execOp, ho, Instr.alloc, this, newVar_run, Value.cells]
  rw [Oper.semAt_plain _ _ _ (by intro c' h'; rw [ho] at h'; cases h'), hrun, Oper.uponIn_value, hd]
  simp only [wpOpsIn]
  have hv : RV ρ (.raw (.pointer (some ⟨w.heap.size, 0, none⟩))) (.pointer (some ⟨w.heap.size, 0, none⟩)) := by
    simp only [RV, RV1, RC]
    exact ⟨rfl, trivial⟩
  obtain ⟨p1, p2⟩ := hst.sl.put hst.len (some t) hv
  refine execB_sound hm D X n w.heap.size fi m (1 :: path) rest _ (some []) r ρ B W _ _ Q ⟨⟨p1, p2, ?_, ?_⟩, by simp, ?_, ?_, ?_⟩ (h.mono fun x hx ρ' a' w' g1 g2 => hx ρ' a' w' g1 g2.st)
  · show (a.put (some t) _).defers = _
    exact hst.df
  · refine hst.rep.keepB (n := w.heap.size) (fun k c hc => hst.rep.lt hc) (fun i hi => Nat.lt_of_lt_of_le (hst.rep.bnd i hi) hst.rep.below.size) ?_
    exact (Below.refl _ w).alloc (Nat.le_refl _) _
  · rintro l ⟨⟩
    exact Lib.fresh_isBuilder D.T D.e w
  · exact fun k c hc => hst.rep.lt hc
  · exact fun i hi => Nat.lt_of_lt_of_le (hst.rep.bnd i hi) hst.rep.below.size
def keepBS (keep : List Nat) : Nat → List AV → List AV
  | _, [] => []
  | i, v :: l => (match keep.contains i with
    | true => v
    | false => .any) :: keepBS keep (i + 1) l
theorem keepBS_len (keep : List Nat) : ∀ (i : Nat) (l : List AV), (keepBS keep i l).length = l.length
  | _, [] => rfl
  | i, v :: l => by simp [keepBS, keepBS_len keep (i + 1) l]
theorem keepBS_get {ρ : Env} {x : Value} (keep : List Nat) : ∀ (i : Nat) (l : List AV) (j : Nat), RV ρ (sget l j) x → RV ρ (sget (keepBS keep i l) j) x
  | _, [], _, h => h
  | i, v :: l, 0, h => by
    simp only [keepBS]
    split
    · exact h
    · exact trivial
  | i, v :: l, j + 1, h => keepBS_get keep (i + 1) l j h
/-- The tail's law, out of one entry's state. -/
def CLT.bld (hm : P.follows .mixedOrders = true) (D : Bld P) (hz : (zeroValue D.T).run P = fun w => .ok (.agg #[.pointer none, .slice none 0 0]) w) (X : EnvT P) (n m : Nat) (gi : FI P) (path : List Nat) (s0 : St) (kn kh : List Bool) (keep : List Nat) (t : T (Ex × St)) (kn' kh' : List Bool)
    (ht : ∀ b, (tailB D X n m b gi path ⟨s0, kn, kh⟩).map (fun r => (r.1, (⟨keepBS keep 0 r.2.1.s.ss, r.2.1.s.H, r.2.1.s.nk⟩ : St))) = t) : CLT P where
  f := gi.f
  path := path
  g := fun ks => match fitSt s0 ks.s with
    | some ob => .needs ob (t.map fun r => (r.1, ⟨r.2, kn', kh'⟩))
    | none => .bad
  ok := by
    intro fi c hf hs ks
    have hfi := FI.ext' hf
    subst hfi
    intro r ρ B W a w Q _ hst h
    split at h
    case h_2 => exact h.elim
    rename_i ob hft
    rw [T.holds_needs] at h
    obtain ⟨h1, h2⟩ := h
    have hst0 := fitSt_sound hft h1 hst
    rw [← ht w.heap.size, T.holds_map, T.holds_map] at h2
    refine tailB_sound hm D hz X n m _ path hs ⟨s0, kn, kh⟩ hst0 (h2.mono ?_)
    intro x hx ρ' a' w' hle hst'
    exact hx ρ' a' w' hle ⟨fun i => keepBS_get keep 0 _ i (hst'.sl i), by show (keepBS keep 0 _).length = _; rw [keepBS_len]; exact hst'.len, hst'.df, hst'.rep⟩
end
end Go.Proofs.Ytglcjmnkhmdlhaa

/- A drawn region with calls that are walked into: each order by itself. -/
namespace Go.Proofs.Ytglcjmnkhmdlhaa
open Go Go.RowKit
theorem T.holds_all {α β : Type} {F : β → α → Prop} {p : β → Prop} (x0 : β) (h0 : p x0) : ∀ t : T α, (∀ x, p x → t.holds (F x)) → t.holds fun y => ∀ x, p x → F x y
  | .leaf a, h => fun x hx => h x hx
  | .ite c t e, h => ⟨fun hc => T.holds_all x0 h0 t fun x hx => (h x hx).1 hc, fun hc => T.holds_all x0 h0 e fun x hx => (h x hx).2 hc⟩
  | .need c t, h => ⟨(h x0 h0).1, T.holds_all x0 h0 t fun x hx => (h x hx).2⟩
  | .bad, h => (h x0 h0).elim
section
variable {P : Program} {C : CT}
theorem opT_sound {cs : List (Ctr P)} {cal : CalT} {yl : Option (Nat × YalT)} (hcal : CalTOK P C cal) (hyl : YO P C yl) {r : Option Nat} {ops : Array Oper} (o : Oper) (i : Nat) (ks : KS) (dec : Dec) (ho : ops.toList[i]? = some o)
    (ρ : Env) (B : Fr) (W : WD) (a : Act) (w : World) (Q : Exit → Act → World → Prop) (K : Act → World → Prop) (hC : C.p ρ B W.w) (hst : StS ρ ks.s B W a w) (hdec : DecOK dec ks.s.ss)
    (h : (runOpsT P cs cal yl ops.toList [o] ks dec).holds (fun ks' => ∀ ρ' a' w', Env.le ρ ρ' → StS ρ' ks'.s B W a' w' → K a' w')) : wpOpIn (FR r) 0 P ops Q i K a w := by
  have ho' : ops[i]? = some o := by simpa using ho
  have next : ∀ (ρ' : Env) (v : AV) (x : Value) (ks' : KS) (d : Dec) (w' : World), Env.le ρ ρ' → RV ρ' v x → Rep ρ' ks'.s.H B W.w w' → ks'.s.ss = sput ks.s.ss o.dst v → DecOK d ks.s.ss →
      (runOpsT P cs cal yl ops.toList [] ks' (dropO d o.dst)).holds (fun ks' => ∀ ρ' a' w', Env.le ρ ρ' → StS ρ' ks'.s B W a' w' → K a' w') →
      K (a.put o.dst x) w' := by
    intro ρ' v x ks' d w' h1 h2 h3 hss hd hrun
    obtain ⟨p1, p2⟩ := (hst.sl.mono h1).put hst.len o.dst h2
    refine (show ∀ ρ' a' w', Env.le ρ ρ' → StS ρ' ks'.s B W a' w' → K a' w' from hrun) ρ' _ w' h1 ⟨by simpa only [St.rs, hss] using p1, by simpa only [St.rs, hss] using p2, ?_, h3⟩
    have : (a.put o.dst x).defers = a.defers := by cases o.dst <;> rfl
    rw [this]; exact hst.df
  simp only [runOpsT] at h
  rw [T.holds_bind] at h
  obtain ⟨d, h, hd⟩ := askT_spec h hdec
  split at h
  · rename_i ob hw
    have hwob := wantedA_ob hd hw
    split at h
    · rename_i E hE
      rw [T.holds_needs] at h
      obtain ⟨hreal, h⟩ := h
      have hall : ∀ b ∈ (E.more ob).ob, b = true := by
        intro b hb
        simp only [Eff.more, List.mem_append] at hb
        rcases hb with hb | hb
        · exact hwob b hb
        · cases hp : isPick o with
          | true => exact pick_ob hd hE hp b hb
          | false => exact hreal b (by unfold realObs; rw [hp]; exact hb)
      refine opEff_soundIn (cs := cs) (hi := ⟨symOf P ks o, look d⟩) (key := ks.s.nk) (E := E.more ob) hst.rep hst.sl ho' ?_ hall fun ρ' x w' h1 h2 h3 => next ρ' E.v x _ d w' h1 h2 h3 rfl hd h
      unfold opEff
      simp only [St.rs, hw, hE, Option.map_some]
    · split at h
      case h_2 =>
        split at h
        case h_2 => exact h.elim
        rename_i l' args y hf _
        obtain ⟨hb, h⟩ := h
        rw [T.holds_bind] at h
        have hwa := wantedA_sound hst.sl hw hwob
        obtain ⟨c, x, hop, hcb, e, hnt, rfl⟩ := yieldOf_inv hf
        have hb := Nat.eq_of_beq_eq_true hb
        subst hb
        have hx := evS_RV hst.sl x
        have e : evS ks.s.rs.1 x = .raw (.func (.yield y.1) #[] #[]) := e
        rw [e] at hx
        simp only [RV, RV1, RC] at hx
        have e2 : a.eval x = .func (.yield y.1) #[] #[] := by have := hx.2; simpa using this
        obtain ⟨fn, tm, asg, bd, hrun, hround⟩ := hyl _ _ _ _ _ ρ B W.w w _ (fun x w' => K (a.put o.dst x) w') hC hst.rep (evArgs_RV (a := a) hst.sl _ _ hnt)
          (h.mono fun r hr ρ' x w' h1 h2 h3 => next ρ' r.v x _ d w' h1 h2 h3 rfl hd hr)
        unfold wpOpIn
        rw [ho']
        simp only
        rw [if_pos hwa]
        unfold Oper.wpIn
        refine ⟨fun _ _ => trivial, ?_⟩
        rw [Oper.semAt_plain _ _ _ (by intro c' h'; rw [hop] at h'; cases h'), yield_run (a := a) hop hcb e2, hrun]
        refine ⟨FR_depth, RoundIn.mono (show RoundIn (FR r) 0 P y.1 fn tm asg bd w _ from hround) ?_⟩
        rintro en w' ⟨z, rfl, h3⟩
        exact h3
      rename_i f args hf
      rw [T.holds_bind] at h
      have hwa := wantedA_sound hst.sl hw hwob
      unfold calleeOf at hf
      split at hf <;> try contradiction
      rename_i c hop
      split at hf <;> try contradiction
      rename_i x hcb
      have hx := evS_RV hst.sl x
      split at hf <;> try contradiction
      rename_i g cap e
      split at hf <;> try contradiction
      rename_i hcc
      simp at hf; obtain ⟨rfl, rfl⟩ := hf
      simp only [Bool.and_eq_true] at hcc
      have e : evS ks.s.rs.1 x = .fn g cap := e
      rw [e] at hx
      simp only [RV, RV1, RC] at hx
      obtain ⟨xs, hxs, e2⟩ := hx
      simp at e2
      have hcall := hcal _ _ _ _ _ _ ρ B W.w w _ (fun x w' => K (a.put o.dst x) w') hC hst.rep (RV1s_append _ _ _ _ (evArgs_RV (a := a) hst.sl _ _ hcc.2) (RV1s_of_RCs _ _ hcc.1 hxs))
        (h.mono fun r hr ρ' x w' h1 h2 h3 => next ρ' r.v x _ d w' h1 h2 h3 rfl hd hr)
      unfold wpOpIn
      rw [ho']
      simp only
      rw [if_pos hwa]
      exact wpIn_of_call (by intro c' h'; rw [hop] at h'; cases h') (call_run (a := a) hop hcb e2) hcall fun x w' h => h
  · rename_i ob hw
    refine opEff_soundIn (cs := cs) (hi := ⟨true, look d⟩) (key := ks.s.nk) (E := { v := .undef, ob := ob }) hst.rep hst.sl ho' ?_ (wantedA_ob hd hw) fun ρ' x w' h1 h2 h3 => next ρ' .undef x (ks.app P d ks.s.nk (ks.s.nk + 1) o { v := .undef, ob := ob }) d w' h1 h2 h3 rfl hd h
    unfold opEff
    simp only [St.rs, hw]
  · exact h.elim
/-- A region's operations in one order. -/
def runOrd (P : Program) (cs : List (Ctr P)) (cal : CalT) (yl : Option (Nat × YalT)) (ops : List Oper) : List Nat → KS → T KS
  | [], ks => .leaf ks
  | i :: l, ks => match ops[i]? with
    | some o => (runOpsT P cs cal yl ops [o] ks []).bind (runOrd P cs cal yl ops l)
    | none => .bad
/-- All orders. -/
def exts (ops : Array Oper) : Nat → Array Bool → List (List Nat)
  | 0, l => match Region.ready .any ops l with
    | [] => [[]]
    | _ => [[ops.size]]
  | n + 1, l => match Region.ready .any ops l with
    | [] => [[]]
    | i :: r => (i :: r).flatMap fun i => (exts ops n (l.setIfInBounds i true)).map (i :: ·)
theorem exts_ne (ops : Array Oper) : ∀ n l, exts ops n l ≠ []
  | 0, l => by unfold exts; split <;> simp
  | n + 1, l => by
    unfold exts
    split
    · simp
    · rename_i i r _
      have := exts_ne ops n (l.setIfInBounds i true)
      simp [this]
theorem exts_sound {cs : List (Ctr P)} {cal : CalT} {yl : Option (Nat × YalT)} (hcal : CalTOK P C cal) (hyl : YO P C yl) {r : Option Nat} {ops : Array Oper} {B : Fr} {W : WD} {Q : Exit → Act → World → Prop} : ∀ (n : Nat) (l : Array Bool) (ks : KS) (ρ : Env) (a : Act) (w : World), C.p ρ B W.w → StS ρ ks.s B W a w →
    (∀ π ∈ exts ops n l, (runOrd P cs cal yl ops.toList π ks).holds fun ks' => ∀ ρ' a' w', Env.le ρ ρ' → StS ρ' ks'.s B W a' w' → Q .normal a' w') → wpAnyIn (FR r) 0 P .any ops Q n l a w
  | 0, l, ks, ρ, a, w, hC, hst, h => by
    unfold exts at h
    split at h
    · rename_i h0
      exact ⟨h0, h [] (by simp) ρ a w (Env.le.refl ρ) hst⟩
    · exfalso
      have := h [ops.size] (by simp)
      unfold runOrd at this
      rw [show ops.toList[ops.size]? = none by simp] at this
      exact this
  | n + 1, l, ks, ρ, a, w, hC, hst, h => by
    refine ⟨fun h0 => ?_, fun i hi => ?_⟩
    · unfold exts at h
      rw [h0] at h
      exact h [] (by simp) ρ a w (Env.le.refl ρ) hst
    · obtain ⟨_, _, o, ho, _⟩ := ready_iff hi
      have ho2 : ops.toList[i]? = some o := by simpa using ho
      refine opT_sound (cs := cs) hcal hyl o i ks [] ho2 ρ B W a w Q _ hC hst (DecOK.nil _) ?_
      have hh : ∀ π, π ∈ exts ops n (l.setIfInBounds i true) → (runOpsT P cs cal yl ops.toList [o] ks []).holds fun ks' => (runOrd P cs cal yl ops.toList π ks').holds fun ks' => ∀ ρ' a' w', Env.le ρ ρ' → StS ρ' ks'.s B W a' w' → Q .normal a' w' := by
        intro π hπ
        have h2 := h (i :: π) (by
          unfold exts
          split
          · rename_i h0; rw [h0] at hi; simp at hi
          · rename_i j r hr
            rw [hr] at hi
            exact List.mem_flatMap.2 ⟨i, hi, List.mem_map.2 ⟨π, hπ, rfl⟩⟩)
        unfold runOrd at h2
        rw [ho2] at h2
        simp only at h2
        rw [T.holds_bind] at h2
        exact h2
      obtain ⟨π0, hπ0⟩ := List.exists_mem_of_ne_nil _ (exts_ne ops n (l.setIfInBounds i true))
      refine (T.holds_all (p := (· ∈ exts ops n (l.setIfInBounds i true))) π0 hπ0 _ hh).mono ?_
      intro ks' hk ρ' a' w' hle hst'
      exact exts_sound hcal hyl n _ ks' ρ' a' w' (C.mono hC hle) hst' fun π hπ => (hk π hπ).mono fun k2 hk2 ρ2 a2 w2 g1 g2 => hk2 ρ2 a2 w2 (hle.trans g1) g2
def regOps (fi : FI P) (path : List Nat) : Array Oper :=
  match subC fi.body path with
  | some (.region _ ops true) => ops
  | _ => #[]
def allOrds (fi : FI P) (path : List Nat) : List (List Nat) := exts (regOps fi path) (regOps fi path).size (Array.replicate (regOps fi path).size false)
/-- One order of a region, and what is kept of it. -/
def ordT (X : EnvT P C) (n : Nat) (gi : FI P) (path : List Nat) (keep : List Nat) (m : Nat) (π : List Nat) (ks : KS) : T St :=
  (runOrd P X.cs (callT X (execT X n)) X.yl (regOps gi path).toList π ks).bind fun r => match belowSt m (forget keep m r.s) with
    | true => .leaf (forget keep m r.s)
    | false => .bad
/-- A drawn region's law, out of one entry's state. -/
def CLT.drawn (hm : P.follows .mixedOrders = true) (X : EnvT P C) (n : Nat) (gi : FI P) (path : List Nat) (id : Nat) (hsub : subC gi.body path = some (.region id (regOps gi path) true)) (s0 : St) (kn kh : List Bool) (keep : List Nat) (m : Nat) (hm0 : s0.H.length ≤ m) (t : T St) (kn' kh' : List Bool)
    (ht : ∀ π ∈ allOrds gi path, ∀ Φ : St → Prop, t.holds Φ → (ordT X n gi path keep m π ⟨s0, kn, kh⟩).holds Φ) : CLT P C where
  f := gi.f
  path := path
  g := fun ks => match fitSt s0 ks.s with
    | some ob => .needs ob (t.map fun r => (.normal, ⟨r, kn', kh'⟩))
    | none => .bad
  ok := by
    intro fi c hf hs ks
    have hfi := FI.ext' hf
    subst hfi
    rw [hsub] at hs
    simp only [Option.some.injEq] at hs
    subst hs
    intro r ρ B W a w Q hC hst h
    split at h
    case h_2 => exact h.elim
    rename_i ob hft
    rw [T.holds_needs] at h
    obtain ⟨h1, h2⟩ := h
    have hst0 := fitSt_sound hft h1 hst
    rw [T.holds_map] at h2
    refine wpIn_region_any hm ?_
    refine exts_sound (cs := X.cs) (cal := callT X (execT X n)) (yl := X.yl) (callT_sound (fun fi path c ks hs => execT_sound hm X n fi path c ks hs)) X.yok _ _ ⟨s0, kn, kh⟩ ρ a _ hC hst0.drew ?_
    intro π hπ
    have h3 := ht π hπ _ h2
    unfold ordT at h3
    rw [T.holds_bind] at h3
    refine h3.mono ?_
    intro ks' hk ρ' a' w' hle hst'
    split at hk
    case h_2 => exact hk.elim
    rename_i hb
    have hst2 := forget_sound (keep := keep) (m := m) hb hst'
    refine hk (cutE m ρ') a' w' ?_ hst2
    intro k b hkb
    have hkm : k < m := by
      rcases Nat.lt_or_ge k m with h | h
      · exact h
      · have hn := hst0.rep.dom k (hget_long (m := m) _ k (Nat.le_trans hm0 h))
        rw [hkb] at hn; simp at hn
    unfold cutE
    rw [if_pos hkm]
    exact hle k b hkb
end
end Go.Proofs.Ytglcjmnkhmdlhaa

