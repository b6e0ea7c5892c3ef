/- The symbolic run of a function's text: its statements, and calls. -/
import Derived.Test.YtakmgioeldbkcaaXD
namespace Go.Proofs.Ytakmgioeldbkcaa
open Go Go.RowKit

/-- A function that is walked into. -/
structure FI (P : Program) where
  f : Nat
  fn : Func
  body : Code
  hf : P.funcs[f]? = some fn
  hb : fn.body = some body
  hn : ∀ (xs : Array Value) (w : World), (callFunc f xs).run P w = .ok (.enter f xs) w

def child : Nat → Code → Option Code
  | 0, .seq a _ => some a
  | 1, .seq _ b => some b
  | 0, .cond _ a _ => some a
  | 1, .cond _ _ b => some b
  | 0, .block _ a => some a
  | 0, .loop a => some a
  | _, _ => none

def subC (root : Code) : List Nat → Option Code
  | [] => some root
  | d :: p => (subC root p).bind (child d)

/-- What a loop comes to. -/
structure LC (P : Program) where
  f : Nat
  path : List Nat
  g : St → Option (List Bool × Ex × St)
  ok : ∀ (fi : FI P) (body : Code), fi.f = f → subC fi.body path = some (.loop body) → ∀ s ob e s', g s = some (ob, e, s') → (∀ b ∈ ob, b = true) → CodeOK P (.loop body) s e s'

structure EnvX (P : Program) where
  cs : List (Ctr P)
  fis : List (FI P)
  lcs : List (LC P)
  hint : Nat → Nat → St → Hint := fun _ _ _ => {}
  br : Nat → Nat → St → Option Bool := fun _ _ _ => none
  fix : Nat → Nat → List (Nat × AV) := fun _ _ => []

/-- Two values are one, if the tests that are noted down hold. -/
def sameAV : AV → AV → Option (List Bool)
  | .int k n, .int k' m => match kindEq k k' with
    | true => some [n == m]
    | false => none
  | .bool b, .bool c => some [b == c]
  | .u x, .u y => some [x == y]
  | .str s, .str t => some [decide (s = t)]
  | .ints k n l, .ints k' n' l' => match kindEq k k' && Nat.beq n n' with
    | true => some [l == l']
    | false => none
  | _, _ => none

theorem sameAV_eq {v v' : AV} {ob : List Bool} (h : sameAV v v' = some ob) (hob : ∀ b ∈ ob, b = true) : v = v' := by
  unfold sameAV at h
  split at h <;> try contradiction
  · split at h <;> try contradiction
    rename_i hk
    simp at h; subst h
    have := hob _ (List.mem_singleton.2 rfl)
    rw [kindEq_eq hk, eq_of_beq this]
  · simp at h; subst h
    have := hob _ (List.mem_singleton.2 rfl)
    rw [eq_of_beq this]
  · simp at h; subst h
    have := hob _ (List.mem_singleton.2 rfl)
    rw [eq_of_beq this]
  · simp at h; subst h
    have := hob _ (List.mem_singleton.2 rfl)
    rw [of_decide_eq_true this]
  · split at h <;> try contradiction
    rename_i hk
    simp only [Bool.and_eq_true] at hk
    simp at h; subst h
    have := hob _ (List.mem_singleton.2 rfl)
    rw [kindEq_eq hk.1, Nat.eq_of_beq_eq_true hk.2, eq_of_beq this]

/-- Slots, written otherwise. -/
def fixS : List (Nat × AV) → List AV → Option (List Bool × List AV)
  | [], ss => some ([], ss)
  | (t, v) :: l, ss => match sameAV (sget ss t) v with
    | some ob => (fixS l (sset ss t v)).map fun r => (ob ++ r.1, r.2)
    | none => none

theorem sset_self : ∀ (l : List AV) (t : Nat), sset l t (sget l t) = l
  | [], _ => rfl
  | _ :: l, 0 => rfl
  | x :: l, t + 1 => by simp [sset, sget, sset_self l t]

theorem fixS_eq : ∀ (l : List (Nat × AV)) (ss ss' : List AV) (ob : List Bool), fixS l ss = some (ob, ss') → (∀ b ∈ ob, b = true) → ss' = ss
  | [], ss, ss', ob, h, _ => by simp [fixS] at h; exact h.2.symm
  | (t, v) :: l, ss, ss', ob, h, hob => by
    simp only [fixS] at h
    split at h <;> try contradiction
    rename_i o1 h1
    cases hr : fixS l (sset ss t v) with
    | none => simp [hr] at h
    | some r =>
      simp [hr] at h; obtain ⟨rfl, rfl⟩ := h
      have e1 := sameAV_eq h1 (fun b hb => hob b (by simp [hb]))
      have := fixS_eq l _ r.2 r.1 hr (fun b hb => hob b (by simp [hb]))
      rw [this, ← e1, sset_self]

def fixSt (l : List (Nat × AV)) (r : List Bool × St) : Option (List Bool × St) :=
  match l with
  | [] => some r
  | x :: l => (fixS (x :: l) r.2.ss).map fun q => (r.1 ++ q.1, { r.2 with ss := q.2 })

theorem fixSt_eq {l : List (Nat × AV)} {r q : List Bool × St} (h : fixSt l r = some q) (hob : ∀ b ∈ q.1, b = true) : q.2 = r.2 ∧ (∀ b ∈ r.1, b = true) := by
  cases l with
  | nil => simp [fixSt] at h; subst h; exact ⟨rfl, hob⟩
  | cons x l =>
    simp only [fixSt] at h
    cases hr : fixS (x :: l) r.2.ss with
    | none => simp [hr] at h
    | some q' =>
      simp [hr] at h; subst h
      have := fixS_eq _ _ q'.2 q'.1 hr (fun b hb => hob b (by simp [hb]))
      refine ⟨?_, fun b hb => hob b (by simp [hb])⟩
      simp only [this]

def natsEq : List Nat → List Nat → Bool
  | [], [] => true
  | x :: l, y :: m => Nat.beq x y && natsEq l m
  | _, _ => false
theorem natsEq_eq : ∀ (l m : List Nat), natsEq l m = true → l = m
  | [], [], _ => rfl
  | [], _ :: _, h => by simp [natsEq] at h
  | _ :: _, [], h => by simp [natsEq] at h
  | x :: l, y :: m, h => by
    simp only [natsEq, Bool.and_eq_true] at h
    rw [Nat.eq_of_beq_eq_true h.1, natsEq_eq l m h.2]

def findL {P : Program} (f : Nat) (path : List Nat) : List (LC P) → Option (LC P)
  | [] => none
  | c :: l => match Nat.beq c.f f && natsEq c.path path with
    | true => some c
    | false => findL f path l
theorem findL_spec {P : Program} {f : Nat} {path : List Nat} : ∀ (l : List (LC P)) (c : LC P), findL f path l = some c → c.f = f ∧ c.path = path
  | [], c, h => by simp [findL] at h
  | d :: l, c, h => by
    simp only [findL] at h
    split at h
    · rename_i hb
      simp only [Bool.and_eq_true] at hb
      simp at h; subst h
      exact ⟨Nat.eq_of_beq_eq_true hb.1, natsEq_eq _ _ hb.2⟩
    · exact findL_spec l c h

def findF {P : Program} (f : Nat) : List (FI P) → Option (FI P)
  | [] => none
  | c :: l => match Nat.beq c.f f with
    | true => some c
    | false => findF f l
theorem findF_spec {P : Program} {f : Nat} : ∀ (l : List (FI P)) (c : FI P), findF f l = some c → c.f = f
  | [], c, h => by simp [findF] at h
  | d :: l, c, h => by
    simp only [findF] at h
    split at h
    · rename_i hb; simp at h; subst h; exact Nat.eq_of_beq_eq_true hb
    · exact findF_spec l c h

abbrev Res := Option (List Bool × Ex × Nat × St)

/-- A loop, round by round. -/
def loopX (body : Nat → St → Res) : Nat → Nat → St → Res
  | 0, _, _ => none
  | n + 1, last, s => match body last s with
    | some (ob, .normal, last', s') => (loopX body n last' s').map fun r => (ob ++ r.1, r.2)
    | r => r

/-- What a function gives back. -/
def resVar (P : Program) (ss : List AV) (H : Heap) : ResultVar → Option AV
  | .tmp t => match sget ss t with
    | v => match v.noTup with
      | true => some v
      | false => none
  | .cell t T => match effLoad P false ss (hget H) T (.tmp t) with
    | some E => match E.ob, E.v.noTup with
      | [], true => some E.v
      | _, _ => none
    | none => none

def resVars (P : Program) (ss : List AV) (H : Heap) : List ResultVar → Option (List AV)
  | [] => some []
  | r :: l => match resVar P ss H r with
    | some v => (resVars P ss H l).map (v :: ·)
    | none => none

def resAV (P : Program) (ss : List AV) (H : Heap) (l : List ResultVar) : Option AV :=
  match resVars P ss H l with
  | some [v] => some v
  | some l => some (.tup l)
  | none => none

def callX {P : Program} (X : EnvX P) (ex : FI P → List Nat → Nat → Code → St → Res) : Cal := fun f args H nk =>
  match findF f X.fis with
  | some fi => match ex fi [] 0 fi.body ⟨args ++ List.replicate (fi.fn.ntmps - args.length) .undef, H, nk⟩ with
    | some (ob, e, _, s') => match e with
      | .exit _ => none
      | _ => (resAV P s'.ss s'.H fi.fn.results.toList).map fun v => (ob, v, s'.H, s'.nk)
    | none => none
  | none => none

def execStep {P : Program} (X : EnvX P) (ex : FI P → List Nat → Nat → Code → St → Res) (m : Nat) (fi : FI P) (path : List Nat) (last : Nat) (c : Code) (s : St) : Res :=
    match c with
    | .skip => some ([], .normal, last, s)
    | .label _ => some ([], .normal, last, s)
    | .ret => some ([], .ret, last, s)
    | .exit id => some ([], .exit id, last, s)
    | .region id ops draw => match draw with
      | true => ((drawn P X.cs (X.hint fi.f id s) ops s).bind (fixSt (X.fix fi.f id))).map fun r => (r.1, .normal, id, r.2)
      | false => ((runOps P X.cs (X.hint fi.f id s) (callX X ex) ops.toList ops.toList s).bind (fixSt (X.fix fi.f id))).map fun r => (r.1, .normal, id, r.2)
    | .seq a b => match ex fi (0 :: path) last a s with
      | some (ob, .normal, last', s') => (ex fi (1 :: path) last' b s').map fun r => (ob ++ r.1, r.2)
      | r => r
    | .cond c a b => match evS s.ss c with
      | .bool t => match X.br fi.f last s with
        | some d => (match d with
          | true => ex fi (0 :: path) last a s
          | false => ex fi (1 :: path) last b s).map fun (r : List Bool × Ex × Nat × St) => ((t == d) :: r.1, r.2)
        | none => match t with
          | true => ex fi (0 :: path) last a s
          | false => ex fi (1 :: path) last b s
      | _ => none
    | .block id a => match ex fi (0 :: path) last a s with
      | some (ob, .exit id', last', s') => match Nat.beq id' id with
        | true => some (ob, .normal, last', s')
        | false => some (ob, .exit id', last', s')
      | r => r
    | .loop a => match findL fi.f path X.lcs with
      | some lc => (lc.g s).map fun r => (r.1, r.2.1, last, r.2.2)
      | none => loopX (fun last s => ex fi (0 :: path) last a s) m last s
    | _ => none

def exec {P : Program} (X : EnvX P) (n : Nat) : FI P → List Nat → Nat → Code → St → Res :=
  n.rec (fun _ _ _ _ _ => none) fun m ex => execStep X ex m

/-- What a result's place holds. -/
def resOne (tmps : Array Value) : ResultVar → Sem Value
  | .tmp t => Pure.pure (tmps.getD t undef)
  | .cell t T => do loadVar T (← asAddr (tmps.getD t undef))

theorem results_eq (fn : Func) (tmps : Array Value) : results fn tmps = (fn.results.mapM (resOne tmps) >>= fun vs => Pure.pure (if h : vs.size = 1 then vs[0] else .tuple vs)) := by
  unfold results
  congr 2

section
variable {P : Program}

theorem CodeOK.seq {a b : Code} {s s1 s2 : St} {e : Ex} (h1 : CodeOK P a s .normal s1) (h2 : CodeOK P b s1 e s2) : CodeOK P (.seq a b) s e s2 := by
  intro ρ B W ac w Q hst hq
  refine wp_seq (h1 ρ B W ac w _ hst fun ρ' a' w' hle hst' => ?_)
  exact h2 ρ' B W a' w' Q hst' fun ρ2 a2 w2 h hst2 => hq ρ2 a2 w2 (hle.trans h) hst2

theorem CodeOK.seq_out {a b : Code} {s s1 : St} {e : Ex} (h1 : CodeOK P a s e s1) (hne : e ≠ .normal) : CodeOK P (.seq a b) s e s1 := by
  intro ρ B W ac w Q hst hq
  refine wp_seq (h1 ρ B W ac w _ hst fun ρ' a' w' hle hst' => ?_)
  cases e with
  | normal => exact absurd rfl hne
  | exit id => exact hq ρ' a' w' hle hst'
  | ret => exact hq ρ' a' w' hle hst'

theorem CodeOK.block_in {id : Nat} {a : Code} {s s1 : St} (h1 : CodeOK P a s (.exit id) s1) : CodeOK P (.block id a) s .normal s1 := by
  intro ρ B W ac w Q hst hq
  refine wp_block (h1 ρ B W ac w _ hst fun ρ' a' w' hle hst' => ?_)
  simp only [Ex.to, Exit.inBlock, if_true]
  exact hq ρ' a' w' hle hst'

theorem CodeOK.block_out {id : Nat} {a : Code} {s s1 : St} {e : Ex} (h1 : CodeOK P a s e s1) (hne : e ≠ .exit id) : CodeOK P (.block id a) s e s1 := by
  intro ρ B W ac w Q hst hq
  refine wp_block (h1 ρ B W ac w _ hst fun ρ' a' w' hle hst' => ?_)
  cases e with
  | normal => exact hq ρ' a' w' hle hst'
  | exit id' =>
    simp only [Ex.to, Exit.inBlock]
    rw [if_neg (fun h => hne (by rw [h]))]
    exact hq ρ' a' w' hle hst'
  | ret => exact hq ρ' a' w' hle hst'

theorem CodeOK.cond {c : Operand} {a b : Code} {s s1 : St} {e : Ex} {t : Bool} (hc : evS s.ss c = .bool t) (h : CodeOK P (if t then a else b) s e s1) : CodeOK P (.cond c a b) s e s1 := by
  intro ρ B W ac w Q hst hq
  have hv := evS_RV hst.sl c
  have hc : evS s.rs.1 c = .bool t := hc
  rw [hc] at hv
  exact wp_cond (RV_bool hv) (h ρ B W ac w Q hst hq)

theorem loop_sound {c : Code} {body : Nat → St → Res} (hb : ∀ last s ob e last' s', body last s = some (ob, e, last', s') → (∀ b ∈ ob, b = true) → CodeOK P c s e s') :
    ∀ (n last : Nat) (s : St) (ob : List Bool) (e : Ex) (last' : Nat) (s' : St), loopX body n last s = some (ob, e, last', s') → (∀ b ∈ ob, b = true) →
    ∀ (ρ : Env) (B : Nat) (W : World) (a : Act) (w : World) (Q : Exit → Act → World → Prop), StS ρ s B W a w → (∀ ρ' a' w', Env.le ρ ρ' → StS ρ' s' B W a' w' → Q e.to a' w') → Code.rounds P c Q n a w
  | 0, last, s, ob, e, last', s', h, _, ρ, B, W, a, w, Q, _, _ => by simp [loopX] at h
  | n + 1, last, s, ob, e, last', s', h, hob, ρ, B, W, a, w, Q, hst, hq => by
    rw [rounds_succ]
    simp only [loopX] at h
    split at h
    · rename_i ob1 last1 s1 h1
      cases hr : loopX body n last1 s1 with
      | none => simp [hr] at h
      | some r =>
        obtain ⟨ob2, e2, l2, s2⟩ := r
        simp [hr] at h; obtain ⟨rfl, rfl, rfl, rfl⟩ := h
        refine hb _ _ _ _ _ _ h1 (fun b hb => hob b (by simp [hb])) ρ B W a w _ hst fun ρ' a' w' hle hst' => ?_
        exact loop_sound hb n last1 s1 ob2 e2 l2 s2 hr (fun b hb => hob b (by simp [hb])) ρ' B W a' w' Q hst' fun ρ2 a2 w2 h3 h4 => hq ρ2 a2 w2 (hle.trans h3) h4
    · rename_i hne
      refine hb _ _ _ _ _ _ h hob ρ B W a w _ hst fun ρ' a' w' hle hst' => ?_
      cases e with
      | normal => exact absurd h (hne _ _ _)
      | exit id => exact hq ρ' a' w' hle hst'
      | ret => exact hq ρ' a' w' hle hst'

theorem resVar_sound {ρ : Env} {s : St} {B : Nat} {W w : World} {a : Act} (hst : StS ρ s B W a w) {r : ResultVar} {v : AV} (h : resVar P s.ss s.H r = some v) :
    ∃ x, (resOne a.tmps r).run P w = .ok x w ∧ RV1 ρ v x := by
  cases r with
  | tmp t =>
    simp only [resVar] at h
    split at h <;> try contradiction
    rename_i hn
    simp at h; subst h
    exact ⟨_, rfl, RV1_of_RV (hst.sl t) hn⟩
  | cell t T =>
    simp only [resVar] at h
    split at h <;> try contradiction
    rename_i E hE
    split at h <;> try contradiction
    rename_i hob hn
    simp at h; subst h
    unfold effLoad at hE
    have hx := hst.sl t
    split at hE <;> try contradiction
    rename_i k p he
    have he : sget s.rs.1 t = .ptr k p := he
    rw [he] at hx
    obtain ⟨ad, ex, hp⟩ := RV_ptr hx
    split at hE <;> try contradiction
    rename_i b hk
    split at hE <;> try contradiction
    rename_i ob c d hg hd
    have key : (if isAggT P T = true then c.isAgg = true ∧ c.size = P.cellsOf T else c.one = true) ∧ E = { v := c, ob := ob, rd := [k] } := by
      split at hE
      · rename_i ht
        split at hE <;> try contradiction
        rename_i hc
        simp only [Bool.and_eq_true] at hc
        simp at hE
        rw [if_pos ht]
        exact ⟨⟨hc.1, Nat.eq_of_beq_eq_true hc.2⟩, hE.symm⟩
      · rename_i ht
        split at hE <;> try contradiction
        rename_i hc
        simp at hE
        rw [if_neg (by simp [ht])]
        exact ⟨hc, hE.symm⟩
    obtain ⟨hT, rfl⟩ := key
    simp only at hob hn ⊢
    subst hob
    obtain ⟨y, hy, hv⟩ := loadVar_run false hst.rep hk hp hg (by simp) hd hT
    exact ⟨y, by simp [resOne, ex, asAddr, hy], RV1_of_RV hv hn⟩

theorem resVars_sound {ρ : Env} {s : St} {B : Nat} {W w : World} {a : Act} (hst : StS ρ s B W a w) : ∀ (l : List ResultVar) (vs : List AV), resVars P s.ss s.H l = some vs →
    ∃ xs, (l.mapM (resOne a.tmps)).run P w = .ok xs w ∧ RV1s ρ vs xs
  | [], vs, h => by simp [resVars] at h; subst h; exact ⟨[], by simp, by simp [RV1s]⟩
  | r :: l, vs, h => by
    simp only [resVars] at h
    split at h <;> try contradiction
    rename_i v hv
    cases hr : resVars P s.ss s.H l with
    | none => simp [hr] at h
    | some vs' =>
      simp [hr] at h; subst h
      obtain ⟨x, hx, h1⟩ := resVar_sound hst hv
      obtain ⟨xs, hxs, h2⟩ := resVars_sound hst l vs' hr
      refine ⟨x :: xs, ?_, by simp only [RV1s]; exact ⟨x, xs, h1, h2, rfl⟩⟩
      rw [List.mapM_cons, Sem.run_bind, hx, Result.andThen_ok, Sem.run_bind, hxs]
      rfl

theorem RV1s_length {ρ : Env} : ∀ (l : List AV) (xs : List Value), RV1s ρ l xs → xs.length = l.length
  | [], xs, h => by simp only [RV1s] at h; subst h; rfl
  | v :: l, xs, h => by
    simp only [RV1s] at h
    obtain ⟨x, ys, _, h2, rfl⟩ := h
    simp [RV1s_length l ys h2]

theorem resAV_sound {ρ : Env} {s : St} {B : Nat} {W w : World} {a : Act} {fn : Func} {v : AV} (hst : StS ρ s B W a w) (h : resAV P s.ss s.H fn.results.toList = some v) : ∃ x, (results fn a.tmps).run P w = .ok x w ∧ RV ρ v x := by
  unfold resAV at h
  have run : ∀ vs, resVars P s.ss s.H fn.results.toList = some vs → ∃ xs : List Value, (results fn a.tmps).run P w = .ok (if h : xs.toArray.size = 1 then xs.toArray[0] else .tuple xs.toArray) w ∧ RV1s ρ vs xs := by
    intro vs hvs
    obtain ⟨xs, h1, h2⟩ := resVars_sound hst _ vs hvs
    refine ⟨xs, ?_, h2⟩
    rw [results_eq, Sem.run_bind, Array.mapM_eq_mapM_toList, Sem.run_map, h1]
    rfl
  split at h <;> try contradiction
  · rename_i u hvs
    simp at h; subst h
    obtain ⟨xs, h1, h2⟩ := run _ hvs
    simp only [RV1s] at h2
    obtain ⟨x, ys, hx, rfl, rfl⟩ := h2
    exact ⟨x, by simpa using h1, RV_of_RV1 hx⟩
  · rename_i vs hne hvs
    simp at h; subst h
    obtain ⟨xs, h1, h2⟩ := run _ hvs
    refine ⟨.tuple xs.toArray, ?_, by simp only [RV]; exact ⟨xs, h2, rfl⟩⟩
    rw [h1]
    have hl := RV1s_length _ _ h2
    rw [dif_neg]
    intro h1
    have : vs.length = 1 := by rw [← hl]; simpa using h1
    match vs, this with
    | [u], _ => exact hne u rfl

theorem RV1s_slots {ρ : Env} : ∀ (l : List AV) (xs : List Value) (n : Nat), RV1s ρ l xs → SlotsR ρ (l ++ List.replicate n .undef) (xs ++ List.replicate n undef).toArray
  | [], xs, n, h => by
    simp only [RV1s] at h; subst h
    intro i
    have : sget ([] ++ List.replicate n .undef) i = .undef := by
      simp only [List.nil_append]
      induction n generalizing i with
      | zero => rfl
      | succ n ih => cases i with
        | zero => rfl
        | succ i => exact ih i
    rw [this]
    simp only [RV, RV1, List.nil_append, Array.getD_eq_getD_getElem?, List.getElem?_toArray, List.getElem?_replicate]
    split <;> rfl
  | v :: l, xs, n, h => by
    simp only [RV1s] at h
    obtain ⟨x, ys, h1, h2, rfl⟩ := h
    intro i
    cases i with
    | zero => simpa [sget] using RV_of_RV1 h1
    | succ i =>
      have := RV1s_slots l ys n h2 i
      simpa [sget] using this

theorem call_sound {X : EnvX P} {ex : FI P → List Nat → Nat → Code → St → Res} (hex : ∀ (fi : FI P) path last c s ob e last' s', subC fi.body path = some c → ex fi path last c s = some (ob, e, last', s') → (∀ b ∈ ob, b = true) → CodeOK P c s e s') : CalOK P (callX X ex) := by
  intro f args H nk ob v H' nk' h hob ρ B W w xs hrep hargs
  unfold callX at h
  split at h <;> try contradiction
  rename_i fi hfi
  have hff := findF_spec _ _ hfi
  refine .inr ⟨by rw [← hff]; exact fi.hn _ _, ?_⟩
  split at h <;> try contradiction
  rename_i ob' e last' s' hr
  split at h <;> try contradiction
  rename_i hne
  cases hv : resAV P s'.ss s'.H fi.fn.results.toList with
  | none => simp [hv] at h
  | some u =>
    simp [hv] at h; obtain ⟨rfl, rfl, rfl, rfl⟩ := h
    have hok := hex fi [] 0 fi.body _ _ _ _ _ rfl hr hob
    rw [← hff]
    refine calls_of_wp fi.hf fi.hb (hok ρ B W _ w _ ⟨?_, ?_, rfl, hrep⟩ ?_)
    · have := RV1s_slots args xs (fi.fn.ntmps - args.length) hargs
      have hl := RV1s_length _ _ hargs
      have e1 : (xs ++ List.replicate (fi.fn.ntmps - args.length) undef).toArray = xs.toArray ++ Array.replicate (fi.fn.ntmps - xs.toArray.size) undef := by simp [hl]
      rw [e1] at this
      exact this
    · have hl := RV1s_length _ _ hargs
      simp [hl]
    · intro ρ' a' w' hle hst
      obtain ⟨x, hx, hxv⟩ := resAV_sound (fn := fi.fn) hst hv
      cases e with
      | normal => exact ⟨hst.df, x, hx, x, rfl, ρ', hle, hxv, hst.rep⟩
      | ret => exact ⟨hst.df, x, hx, x, rfl, ρ', hle, hxv, hst.rep⟩
      | exit id => exact absurd rfl (hne _)

theorem exec_sound (hm : P.follows .mixedOrders = true) (X : EnvX P) : ∀ (n : Nat) (fi : FI P) (path : List Nat) (last : Nat) (c : Code) (s : St) (ob : List Bool) (e : Ex) (last' : Nat) (s' : St), subC fi.body path = some c →
    exec X n fi path last c s = some (ob, e, last', s') → (∀ b ∈ ob, b = true) → CodeOK P c s e s'
  | 0, _, _, _, _, _, _, _, _, _, _, h, _ => by simp [exec] at h
  | n + 1, fi, path, last, c, s, ob, e, last', s', hsub, h, hob => by
    have ih := exec_sound hm X n
    have hcal : CalOK P (callX X (exec X n)) := call_sound ih
    have child_sub : ∀ d b, child d c = some b → subC fi.body (d :: path) = some b := fun d b hd => by simp [subC, hsub, hd]
    have h : execStep X (exec X n) n fi path last c s = some (ob, e, last', s') := h
    unfold execStep at h
    cases c with
    | skip =>
      simp at h; obtain ⟨rfl, rfl, rfl, rfl⟩ := h
      intro ρ B W a w Q hst hq
      exact wp_skip (hq ρ a w (Env.le.refl ρ) hst)
    | label l =>
      simp at h; obtain ⟨rfl, rfl, rfl, rfl⟩ := h
      intro ρ B W a w Q hst hq
      exact wp_label (hq ρ a w (Env.le.refl ρ) hst)
    | ret =>
      simp at h; obtain ⟨rfl, rfl, rfl, rfl⟩ := h
      intro ρ B W a w Q hst hq
      exact wp_ret (hq ρ a w (Env.le.refl ρ) hst)
    | exit id =>
      simp at h; obtain ⟨rfl, rfl, rfl, rfl⟩ := h
      intro ρ B W a w Q hst hq
      exact wp_exit (hq ρ a w (Env.le.refl ρ) hst)
    | region id ops draw =>
      simp only at h
      cases draw with
      | true =>
        simp only at h
        cases hd : drawn P X.cs (X.hint fi.f id s) ops s with
        | none => simp [hd] at h
        | some r =>
          simp only [hd, Option.bind_some] at h
          cases hfx : fixSt (X.fix fi.f id) r with
          | none => simp [hfx] at h
          | some q =>
            simp [hfx] at h; obtain ⟨rfl, rfl, rfl, rfl⟩ := h
            obtain ⟨h1, h2⟩ := fixSt_eq hfx hob
            rw [h1]
            exact drawn_sound hm hd h2
      | false =>
        simp only at h
        cases hd : runOps P X.cs (X.hint fi.f id s) (callX X (exec X n)) ops.toList ops.toList s with
        | none => simp [hd] at h
        | some r =>
          simp only [hd, Option.bind_some] at h
          cases hfx : fixSt (X.fix fi.f id) r with
          | none => simp [hfx] at h
          | some q =>
            simp [hfx] at h; obtain ⟨rfl, rfl, rfl, rfl⟩ := h
            obtain ⟨h1, h2⟩ := fixSt_eq hfx hob
            rw [h1]
            exact region_sound hcal hd h2
    | seq a b =>
      simp only at h
      split at h
      · rename_i ob1 last1 s1 h1
        cases hr : exec X n fi (1 :: path) last1 b s1 with
        | none => simp [hr] at h
        | some r =>
          obtain ⟨ob2, e2, l2, s2⟩ := r
          simp [hr] at h; obtain ⟨rfl, rfl, rfl, rfl⟩ := h
          exact (ih fi _ _ _ _ _ _ _ _ (child_sub 0 a rfl) h1 (fun b hb => hob b (by simp [hb]))).seq (ih fi _ _ _ _ _ _ _ _ (child_sub 1 b rfl) hr (fun b hb => hob b (by simp [hb])))
      · rename_i hne
        exact (ih fi _ _ _ _ _ _ _ _ (child_sub 0 a rfl) h hob).seq_out (fun e0 => by subst e0; exact hne _ _ _ h)
    | cond c a b =>
      simp only at h
      split at h <;> try contradiction
      rename_i t ht
      split at h
      · rename_i d _
        cases d with
        | true =>
          (try simp only at h)
          cases hr : exec X n fi (0 :: path) last a s with
          | none => simp [hr] at h
          | some r =>
            obtain ⟨ob2, e2, l2, s2⟩ := r
            simp [hr] at h; obtain ⟨rfl, rfl, rfl, rfl⟩ := h
            have := hob t (by simp)
            refine CodeOK.cond ht ?_
            rw [this]
            exact ih fi _ _ _ _ _ _ _ _ (child_sub 0 a rfl) hr (fun b hb => hob b (by simp [hb]))
        | false =>
          (try simp only at h)
          cases hr : exec X n fi (1 :: path) last b s with
          | none => simp [hr] at h
          | some r =>
            obtain ⟨ob2, e2, l2, s2⟩ := r
            simp [hr] at h; obtain ⟨rfl, rfl, rfl, rfl⟩ := h
            have := hob (!t) (by simp)
            refine CodeOK.cond ht ?_
            simp at this
            rw [this]
            exact ih fi _ _ _ _ _ _ _ _ (child_sub 1 b rfl) hr (fun b hb => hob b (by simp [hb]))
      · refine CodeOK.cond ht ?_
        cases t with
        | true => exact ih fi _ _ _ _ _ _ _ _ (child_sub 0 a rfl) h hob
        | false => exact ih fi _ _ _ _ _ _ _ _ (child_sub 1 b rfl) h hob
    | block id a =>
      simp only at h
      split at h
      · rename_i ob1 id' last1 s1 h1
        split at h
        · rename_i hb
          have hb := Nat.eq_of_beq_eq_true hb
          simp only [Option.some.injEq, Prod.mk.injEq] at h
          obtain ⟨rfl, rfl, rfl, rfl⟩ := h
          rw [hb] at h1
          exact (ih fi _ _ _ _ _ _ _ _ (child_sub 0 a rfl) h1 hob).block_in
        · rename_i hb
          simp at h; obtain ⟨rfl, rfl, rfl, rfl⟩ := h
          refine (ih fi _ _ _ _ _ _ _ _ (child_sub 0 a rfl) h1 hob).block_out ?_
          intro e0
          simp at e0; subst e0
          simp at hb
      · rename_i hne
        exact (ih fi _ _ _ _ _ _ _ _ (child_sub 0 a rfl) h hob).block_out (fun e0 => by subst e0; exact hne _ _ _ _ h)
    | loop a =>
      simp only at h
      split at h
      · rename_i lc hlc
        obtain ⟨l1, l2⟩ := findL_spec _ _ hlc
        cases hr : lc.g s with
        | none => simp [hr] at h
        | some r =>
          obtain ⟨ob2, e2, s2⟩ := r
          simp [hr] at h; obtain ⟨rfl, rfl, rfl, rfl⟩ := h
          exact lc.ok fi a l1.symm (by rw [l2]; exact hsub) s _ _ _ hr hob
      · intro ρ B W ac w Q hst hq
        refine wp_loop_rounds n (loop_sound (c := a) ?_ n last s ob e last' s' h hob ρ B W ac w Q hst hq)
        intro last s ob e last' s' hr hob
        exact ih fi _ _ _ _ _ _ _ _ (child_sub 0 a rfl) hr hob
    | _ => simp at h

/-- A call, run symbolically. -/
theorem Calls.of_exec (hm : P.follows .mixedOrders = true) (X : EnvX P) (n f nk : Nat) (args : List AV) (H H' : Heap) (ob : List Bool) (v : AV) (nk' : Nat) (h : callX X (exec X n) f args H nk = some (ob, v, H', nk')) (hob : ∀ b ∈ ob, b = true)
    {ρ : Env} {B : Nat} {W w : World} {xs : List Value} (hr : Rep ρ H B W w) (ha : RV1s ρ args xs) :
    CallOK P f xs.toArray w fun x w' => ∃ ρ', Env.le ρ ρ' ∧ RV ρ' v x ∧ Rep ρ' H' B W w' :=
  call_sound (exec_sound hm X n) _ _ _ _ _ _ _ _ h hob _ _ _ _ _ hr ha
end
end Go.Proofs.Ytakmgioeldbkcaa
