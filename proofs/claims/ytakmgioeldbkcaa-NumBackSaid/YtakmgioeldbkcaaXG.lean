/- Loops of a symbolic run: what is forgotten from round to round. -/
import Derived.Test.YtakmgioeldbkcaaXF
namespace Go.Proofs.Ytakmgioeldbkcaa
open Go Go.RowKit

def pathEq : Path → Path → Bool
  | [], [] => true
  | (a, b, c) :: p, (a', b', c') :: q => Nat.beq a a' && Nat.beq b b' && Nat.beq c c' && pathEq p q
  | _, _ => false
theorem pathEq_eq : ∀ (p q : Path), pathEq p q = true → p = q
  | [], [], _ => rfl
  | [], _ :: _, h => by simp [pathEq] at h
  | _ :: _, [], h => by simp [pathEq] at h
  | (a, b, c) :: p, (a', b', c') :: q, h => by
    simp only [pathEq, Bool.and_eq_true] at h
    obtain ⟨⟨⟨h1, h2⟩, h3⟩, h4⟩ := h
    rw [Nat.eq_of_beq_eq_true h1, Nat.eq_of_beq_eq_true h2, Nat.eq_of_beq_eq_true h3, pathEq_eq p q h4]

mutual
/-- Two values are one, if the tests that are noted down hold. -/
def eqv : AV → AV → Option (List Bool)
  | .any, .any => some []
  | .undef, .undef => some []
  | .nilp, .nilp => some []
  | .nilsl, .nilsl => some []
  | .nilfn, .nilfn => some []
  | .ptr k p, .ptr k' p' => match Nat.beq k k' && pathEq p p' with
    | true => some []
    | false => none
  | .sl k p n c, .sl k' p' n' c' => match Nat.beq k k' && pathEq p p' && Nat.beq n n' && Nat.beq c c' with
    | true => some []
    | false => none
  | .fn f l, .fn f' l' => match Nat.beq f f' with
    | true => eqvL l l'
    | false => none
  | .agg l, .agg l' => eqvL l l'
  | .tup l, .tup l' => eqvL l l'
  | v, v' => sameAV v v'
def eqvL : List AV → List AV → Option (List Bool)
  | [], [] => some []
  | v :: l, v' :: l' => match eqv v v' with
    | some o1 => (eqvL l l').map (o1 ++ ·)
    | none => none
  | _, _ => none
end

mutual
theorem eqv_eq : ∀ (v v' : AV) (ob : List Bool), eqv v v' = some ob → (∀ b ∈ ob, b = true) → v = v'
  | v, v', ob, h, hob => by
    unfold eqv at h
    split at h
    · rfl
    · rfl
    · rfl
    · rfl
    · rfl
    · split at h <;> try contradiction
      rename_i hb
      simp only [Bool.and_eq_true] at hb
      rw [Nat.eq_of_beq_eq_true hb.1, pathEq_eq _ _ hb.2]
    · split at h <;> try contradiction
      rename_i hb
      simp only [Bool.and_eq_true] at hb
      rw [Nat.eq_of_beq_eq_true hb.1.1.1, pathEq_eq _ _ hb.1.1.2, Nat.eq_of_beq_eq_true hb.1.2, Nat.eq_of_beq_eq_true hb.2]
    · split at h <;> try contradiction
      rename_i f l f' l' _ hb
      rw [Nat.eq_of_beq_eq_true hb, eqvL_eq l l' ob h hob]
    · rename_i l l'
      rw [eqvL_eq l l' ob h hob]
    · rename_i l l'
      rw [eqvL_eq l l' ob h hob]
    · exact sameAV_eq h hob
theorem eqvL_eq : ∀ (l l' : List AV) (ob : List Bool), eqvL l l' = some ob → (∀ b ∈ ob, b = true) → l = l'
  | [], [], ob, _, _ => rfl
  | [], _ :: _, ob, h, _ => by simp [eqvL] at h
  | _ :: _, [], ob, h, _ => by simp [eqvL] at h
  | v :: l, v' :: l', ob, h, hob => by
    simp only [eqvL] at h
    split at h <;> try contradiction
    rename_i o1 h1
    cases hr : eqvL l l' with
    | none => simp [hr] at h
    | some o2 =>
      simp [hr] at h; subst h
      rw [eqv_eq v v' o1 h1 (fun b hb => hob b (by simp [hb])), eqvL_eq l l' o2 hr (fun b hb => hob b (by simp [hb]))]
end

/-- The slots 'ss' fit the pattern: what is not 'any' is the same. -/
def fitS : List AV → List AV → Option (List Bool)
  | [], [] => some []
  | .any :: l, _ :: l' => fitS l l'
  | v :: l, v' :: l' => match eqv v v' with
    | some o1 => (fitS l l').map (o1 ++ ·)
    | none => none
  | _, _ => none

theorem fitS_sound {ρ : Env} : ∀ (l l' : List AV) (ob : List Bool), fitS l l' = some ob → (∀ b ∈ ob, b = true) → l.length = l'.length ∧ ∀ i x, RV ρ (sget l' i) x → RV ρ (sget l i) x
  | [], [], ob, _, _ => ⟨rfl, fun _ _ h => h⟩
  | [], _ :: _, ob, h, _ => by simp [fitS] at h
  | v :: l, [], ob, h, _ => by cases v <;> simp [fitS] at h
  | v :: l, v' :: l', ob, h, hob => by
    by_cases hv : v = .any
    · subst hv
      simp only [fitS] at h
      obtain ⟨h1, h2⟩ := fitS_sound (ρ := ρ) l l' ob h hob
      refine ⟨by simp [h1], fun i x hx => ?_⟩
      cases i with
      | zero => simp [sget, RV, RV1]
      | succ i => exact h2 i x hx
    · have h : (match eqv v v' with
        | some o1 => (fitS l l').map (o1 ++ ·)
        | none => none) = some ob := by
        cases v <;> first | exact absurd rfl hv | simpa only [fitS] using h
      split at h <;> try contradiction
      rename_i o1 he
      cases hr : fitS l l' with
      | none => simp [hr] at h
      | some o2 =>
        simp [hr] at h; subst h
        have e1 := eqv_eq v v' o1 he (fun b hb => hob b (by simp [hb]))
        subst e1
        obtain ⟨h1, h2⟩ := fitS_sound (ρ := ρ) l l' o2 hr (fun b hb => hob b (by simp [hb]))
        refine ⟨by simp [h1], fun i x hx => ?_⟩
        cases i with
        | zero => exact hx
        | succ i => exact h2 i x hx

def fitH : Heap → Heap → Option (List Bool)
  | [], [] => some []
  | none :: H, none :: H' => fitH H H'
  | some b :: H, some b' :: H' => match Nat.beq b.t b'.t && (b.own == b'.own), eqv b.v b'.v with
    | true, some o1 => (fitH H H').map (o1 ++ ·)
    | _, _ => none
  | _, _ => none

theorem fitH_eq : ∀ (H H' : Heap) (ob : List Bool), fitH H H' = some ob → (∀ b ∈ ob, b = true) → H = H'
  | [], [], ob, _, _ => rfl
  | [], _ :: _, ob, h, _ => by simp [fitH] at h
  | x :: _, [], ob, h, _ => by cases x <;> simp [fitH] at h
  | none :: H, none :: H', ob, h, hob => by simp only [fitH] at h; rw [fitH_eq H H' ob h hob]
  | none :: H, some b :: H', ob, h, _ => by simp [fitH] at h
  | some b :: H, none :: H', ob, h, _ => by simp [fitH] at h
  | some b :: H, some b' :: H', ob, h, hob => by
    simp only [fitH] at h
    split at h <;> try contradiction
    rename_i o1 h1 h2
    cases hr : fitH H H' with
    | none => simp [hr] at h
    | some o2 =>
      simp [hr] at h; subst h
      simp only [Bool.and_eq_true] at h1
      have e1 := Nat.eq_of_beq_eq_true h1.1
      have e2 := eq_of_beq h1.2
      have e3 := eqv_eq b.v b'.v o1 h2 (fun b hb => hob b (by simp [hb]))
      have e4 := fitH_eq H H' o2 hr (fun b hb => hob b (by simp [hb]))
      rw [e4]
      congr 2
      cases b; cases b'; simp_all

/-- 's' fits the pattern 'p'. -/
def fitSt (p s : St) : Option (List Bool) :=
  match fitS p.ss s.ss, fitH p.H s.H with
  | some o1, some o2 => some (o1 ++ o2)
  | _, _ => none

theorem fitSt_sound {p s : St} {ob : List Bool} (h : fitSt p s = some ob) (hob : ∀ b ∈ ob, b = true) {ρ : Env} {B : Nat} {W w : World} {a : Act} (hst : StS ρ s B W a w) : StS ρ p B W a w := by
  unfold fitSt at h
  split at h <;> try contradiction
  rename_i o1 o2 h1 h2
  simp at h; subst h
  have e := fitH_eq _ _ o2 h2 (fun b hb => hob b (by simp [hb]))
  obtain ⟨hl, hs⟩ := fitS_sound (ρ := ρ) _ _ o1 h1 (fun b hb => hob b (by simp [hb]))
  refine ⟨fun i => hs i _ (hst.sl i), ?_, hst.df, ?_⟩
  · show p.ss.length = _
    rw [hl]; exact hst.len
  · show Rep ρ p.H B W w
    rw [e]; exact hst.rep

/-- Slots that are not in the list are forgotten, and blocks from 'm' on. -/
def keepS (keep : List Nat) : Nat → List AV → List AV
  | _, [] => []
  | i, v :: l => (match keep.any (Nat.beq i) with
    | true => v
    | false => .any) :: keepS keep (i + 1) l

def takeH : Nat → Heap → Heap
  | 0, _ => []
  | _ + 1, [] => []
  | m + 1, x :: H => x :: takeH m H

def forget (keep : List Nat) (m : Nat) (s : St) : St := ⟨keepS keep 0 s.ss, takeH m s.H, m⟩

mutual
def below (m : Nat) : AV → Bool
  | .ptr k _ => Nat.ble (k + 1) m
  | .sl k _ _ _ => Nat.ble (k + 1) m
  | .fn _ l => belowL m l
  | .agg l => belowL m l
  | .tup l => belowL m l
  | _ => true
def belowL (m : Nat) : List AV → Bool
  | [] => true
  | v :: l => below m v && belowL m l
end

def belowH (m : Nat) : Heap → Bool
  | [] => true
  | none :: H => belowH m H
  | some b :: H => below m b.v && belowH m H

def belowSt (m : Nat) (s : St) : Bool := belowL m s.ss && belowH m s.H

def cutE (m : Nat) (ρ : Env) : Env := fun k => if k < m then ρ k else none

mutual
theorem RC.cut {ρ : Env} {m : Nat} : ∀ (v : AV) (cs : List Value), below m v = true → RC ρ v cs → RC (cutE m ρ) v cs
  | .agg l, cs, hb, h => by simp only [below] at hb; simp only [RC] at *; exact RCs.cut l cs hb h
  | .u y, cs, _, h => by simpa only [RC] using h
  | .ints k n l, cs, _, h => by simpa only [RC] using h
  | .bool b, cs, _, h => by simpa only [RC] using h
  | .int k n, cs, _, h => by simpa only [RC] using h
  | .str s, cs, _, h => by simpa only [RC] using h
  | .ptr k p, cs, hb, h => by
    simp only [below] at hb; simp only [RC] at *
    obtain ⟨b, h1, e⟩ := h
    exact ⟨b, by simp [cutE, Nat.lt_of_succ_le (Nat.le_of_ble_eq_true hb), h1], e⟩
  | .nilp, cs, _, h => by simpa only [RC] using h
  | .sl k p n c, cs, hb, h => by
    simp only [below] at hb; simp only [RC] at *
    obtain ⟨b, h1, e⟩ := h
    exact ⟨b, by simp [cutE, Nat.lt_of_succ_le (Nat.le_of_ble_eq_true hb), h1], e⟩
  | .nilsl, cs, _, h => by simpa only [RC] using h
  | .fn f l, cs, hb, h => by
    simp only [below] at hb; simp only [RC] at *
    obtain ⟨xs, h1, e⟩ := h
    exact ⟨xs, RCs.cut l xs hb h1, e⟩
  | .nilfn, cs, _, h => by simpa only [RC] using h
  | .raw v, cs, _, h => by simpa only [RC] using h
  | .any, cs, _, h => by simpa only [RC] using h
  | .undef, cs, _, h => by simp only [RC] at h
  | .tup l, cs, _, h => by simp only [RC] at h
theorem RCs.cut {ρ : Env} {m : Nat} : ∀ (l : List AV) (cs : List Value), belowL m l = true → RCs ρ l cs → RCs (cutE m ρ) l cs
  | [], cs, _, h => by simpa only [RCs] using h
  | v :: l, cs, hb, h => by
    simp only [belowL, Bool.and_eq_true] at hb
    simp only [RCs] at *
    obtain ⟨c1, c2, h1, h2, e⟩ := h
    exact ⟨c1, c2, RC.cut v c1 hb.1 h1, RCs.cut l c2 hb.2 h2, e⟩
end

theorem RV1.cut {ρ : Env} {m : Nat} {v : AV} {x : Value} (hb : below m v = true) (h : RV1 ρ v x) : RV1 (cutE m ρ) v x := by
  cases v <;> simp only [RV1] at * <;> first | exact h | exact RC.cut _ _ hb h | (simp only [below] at hb; obtain ⟨cs, h1, e⟩ := h; exact ⟨cs, RCs.cut _ _ hb h1, e⟩)

theorem RV1s.cut {ρ : Env} {m : Nat} : ∀ (l : List AV) (xs : List Value), belowL m l = true → RV1s ρ l xs → RV1s (cutE m ρ) l xs
  | [], xs, _, h => by simpa only [RV1s] using h
  | v :: l, xs, hb, h => by
    simp only [belowL, Bool.and_eq_true] at hb
    simp only [RV1s] at *
    obtain ⟨x, ys, h1, h2, e⟩ := h
    exact ⟨x, ys, h1.cut hb.1, RV1s.cut l ys hb.2 h2, e⟩

theorem RV.cut {ρ : Env} {m : Nat} {v : AV} {x : Value} (hb : below m v = true) (h : RV ρ v x) : RV (cutE m ρ) v x := by
  cases v <;> simp only [RV] at * <;> first | exact h.cut hb | (simp only [below] at hb; obtain ⟨xs, h1, e⟩ := h; exact ⟨xs, RV1s.cut _ _ hb h1, e⟩)

theorem sget_keepS (keep : List Nat) : ∀ (l : List AV) (i j : Nat), sget (keepS keep i l) j = .any ∨ sget (keepS keep i l) j = sget l j
  | [], i, j => .inr rfl
  | v :: l, i, 0 => by
    simp only [keepS, sget]
    split
    · exact .inr rfl
    · exact .inl rfl
  | v :: l, i, j + 1 => by simp only [keepS, sget]; exact sget_keepS keep l (i + 1) j

theorem keepS_length (keep : List Nat) : ∀ (l : List AV) (i : Nat), (keepS keep i l).length = l.length
  | [], _ => rfl
  | v :: l, i => by simp [keepS, keepS_length keep l (i + 1)]

theorem hget_takeH : ∀ (m : Nat) (H : Heap) (k : Nat), hget (takeH m H) k = if k < m then hget H k else none
  | 0, H, k => by simp [takeH, hget_nil]
  | m + 1, [], k => by simp [takeH, hget_nil]
  | m + 1, x :: H, 0 => by simp [takeH, hget]
  | m + 1, x :: H, k + 1 => by simp only [takeH, hget]; rw [hget_takeH m H k]; simp

theorem belowL_sget {m : Nat} : ∀ (l : List AV) (i : Nat), belowL m l = true → below m (sget l i) = true
  | [], i, _ => by simp [sget, below]
  | v :: l, 0, h => by simp only [belowL, Bool.and_eq_true] at h; exact h.1
  | v :: l, i + 1, h => by simp only [belowL, Bool.and_eq_true] at h; exact belowL_sget l i h.2

theorem belowH_hget {m : Nat} : ∀ (H : Heap) (k : Nat) (b : Blk), belowH m H = true → hget H k = some b → below m b.v = true
  | [], k, b, _, h => by simp [hget_nil] at h
  | none :: H, 0, b, _, h => by simp [hget] at h
  | some c :: H, 0, b, hb, h => by simp only [belowH, Bool.and_eq_true] at hb; simp [hget] at h; subst h; exact hb.1
  | none :: H, k + 1, b, hb, h => by simp only [belowH] at hb; exact belowH_hget H k b hb h
  | some c :: H, k + 1, b, hb, h => by simp only [belowH, Bool.and_eq_true] at hb; exact belowH_hget H k b hb.2 h

theorem forget_sound {keep : List Nat} {m : Nat} {s : St} (hb : belowSt m (forget keep m s) = true) {ρ : Env} {B : Nat} {W w : World} {a : Act} (hst : StS ρ s B W a w) : StS (cutE m ρ) (forget keep m s) B W a w := by
  simp only [belowSt, Bool.and_eq_true] at hb
  refine ⟨fun i => ?_, ?_, hst.df, ?_⟩
  · have h1 := belowL_sget _ i hb.1
    have h2 : RV ρ (sget (forget keep m s).ss i) (a.tmps.getD i undef) := by
      rcases sget_keepS keep s.ss 0 i with e | e
      · simp only [forget, e, RV, RV1]
      · simp only [forget, e]; exact hst.sl i
    exact h2.cut h1
  · show (keepS keep 0 s.ss).length = _
    rw [keepS_length]; exact hst.len
  · refine ⟨hst.rep.below, hst.rep.bnd, ?_, ?_, ?_⟩
    · intro k x hk
      have hx := belowH_hget _ k x hb.2 hk
      have hk' : hget (takeH m s.H) k = some x := hk
      rw [hget_takeH] at hk'
      split at hk' <;> try contradiction
      rename_i hlt
      obtain ⟨b, cs, mk, h1, h2, h3, h4⟩ := hst.rep.blk k x hk'
      exact ⟨b, cs, mk, by simp [cutE, hlt, h1], h2, RC.cut _ _ hx h3, h4⟩
    · intro k k' b h1 h2
      simp only [cutE] at h1 h2
      split at h1 <;> split at h2 <;> try contradiction
      exact hst.rep.inj k k' b h1 h2
    · intro k hk
      have hk' : hget (takeH m s.H) k = none := hk
      rw [hget_takeH] at hk'
      simp only [cutE]
      split
      · rename_i hlt; rw [if_pos hlt] at hk'; exact hst.rep.dom k hk'
      · rfl

section
variable {P : Program}

theorem FI.ext' {x y : FI P} (h : x.f = y.f) : x = y := by
  cases x with
  | mk f fn body hf hb hn =>
    cases y with
    | mk f' fn' body' hf' hb' hn' =>
      simp only at h
      subst h
      have e1 : fn = fn' := by rw [hf] at hf'; simpa using hf'
      subst e1
      have e2 : body = body' := by rw [hb] at hb'; simpa using hb'
      subst e2
      rfl

def loopAt (gi : FI P) (path : List Nat) : Code :=
  match subC gi.body path with
  | some (.loop b) => b
  | _ => .skip

/-- A loop's rounds, one by one, then the one that leaves it. -/
theorem rounds_ok (hm : P.follows .mixedOrders = true) (X : EnvX P) (n : Nat) (gi : FI P) (path : List Nat) (st : Nat → St) (keep : List Nat) (m N : Nat) (e : Ex) (sf : St)
    (hsub : subC gi.body path = some (.loop (loopAt gi path)))
    (hstep : ∀ i, i < N → ∃ ob last s1, exec X n gi (0 :: path) 0 (loopAt gi path) (st i) = some (ob, .normal, last, s1) ∧ (∀ b ∈ ob, b = true) ∧ belowSt m (st (i + 1)) = true ∧ forget keep m s1 = st (i + 1))
    (hend : ∃ ob last, exec X n gi (0 :: path) 0 (loopAt gi path) (st N) = some (ob, e, last, sf) ∧ (∀ b ∈ ob, b = true)) (hne : e ≠ .normal) (h0 : (st 0).H.length ≤ m) : CodeOK P (.loop (loopAt gi path)) (st 0) e sf := by
  have hsub2 : subC gi.body (0 :: path) = some (loopAt gi path) := by simp [subC, hsub, child]
  have hlen : ∀ i, i ≤ N → ∀ k, m ≤ k → hget (st i).H k = none := by
    intro i hi k hk
    cases i with
    | zero =>
      have : ∀ (H : Heap) (k : Nat), H.length ≤ k → hget H k = none := by
        intro H
        induction H with
        | nil => intro k _; exact hget_nil k
        | cons x H ih => intro k h; cases k with
          | zero => simp at h
          | succ k => exact ih k (by simpa using h)
      exact this _ _ (by omega)
    | succ i =>
      obtain ⟨ob, last, s1, _, _, _, h4⟩ := hstep i (by omega)
      rw [← h4]
      show hget (takeH m s1.H) k = none
      rw [hget_takeH, if_neg (by omega)]
  intro ρ B W a w Q hst hq
  refine wp_loop_rounds (N + 1) ?_
  have key : ∀ d i (ρ : Env) (a : Act) (w : World), i + d = N → StS ρ (st i) B W a w → (∀ ρ' a' w', Env.le ρ ρ' → StS ρ' sf B W a' w' → Q e.to a' w') → Code.rounds P (loopAt gi path) Q (d + 1) a w := by
    intro d
    induction d with
    | zero =>
      intro i ρ a w hi hst hq
      have : i = N := by omega
      subst this
      obtain ⟨ob, last, h1, h2⟩ := hend
      rw [rounds_succ]
      refine exec_sound hm X n gi _ _ _ _ _ _ _ _ hsub2 h1 h2 ρ B W a w _ hst fun ρ' a' w' hle hst' => ?_
      cases e with
      | normal => exact absurd rfl hne
      | exit id => exact hq ρ' a' w' hle hst'
      | ret => exact hq ρ' a' w' hle hst'
    | succ d ih =>
      intro i ρ a w hi hst hq
      obtain ⟨ob, last, s1, h1, h2, h3, h4⟩ := hstep i (by omega)
      rw [rounds_succ]
      refine exec_sound hm X n gi _ _ _ _ _ _ _ _ hsub2 h1 h2 ρ B W a w _ hst fun ρ' a' w' hle hst' => ?_
      have hst2 := forget_sound (keep := keep) (m := m) (by rw [h4]; exact h3) hst'
      rw [h4] at hst2
      refine ih (i + 1) (cutE m ρ') a' w' (by omega) hst2 fun ρ2 a2 w2 hle2 hst3 => hq ρ2 a2 w2 ?_ hst3
      intro k b hk
      refine hle2 k b ?_
      have hkm : k < m := by
        rcases Nat.lt_or_ge k m with h | h
        · exact h
        · have hd : hget (st i).H k = none := hlen i (by omega) k h
          have hr : Rep ρ (st i).H B W w := hst.rep
          rw [hr.dom k hd] at hk
          simp at hk
      simp only [cutE, hkm, if_true]
      exact hle k b hk
  exact key N 0 ρ a w (by omega) hst hq

/-- A loop's law out of its rounds. -/
def LC.of (gi : FI P) (path : List Nat) (s0 : St) (e : Ex) (sf : St) (hsub : subC gi.body path = some (.loop (loopAt gi path))) (ok : CodeOK P (.loop (loopAt gi path)) s0 e sf) : LC P where
  f := gi.f
  path := path
  g := fun s => (fitSt s0 s).map fun ob => (ob, e, sf)
  ok := by
    intro fi body hf hs s ob e' s' h hob
    have hfi := FI.ext' hf
    subst hfi
    rw [hsub] at hs
    simp at hs
    cases hft : fitSt s0 s with
    | none => simp [hft] at h
    | some o =>
      simp [hft] at h; obtain ⟨rfl, rfl, rfl⟩ := h
      rw [← hs]
      intro ρ B W a w Q hst hq
      exact ok ρ B W a w Q (fitSt_sound hft hob hst) hq
end
end Go.Proofs.Ytakmgioeldbkcaa
