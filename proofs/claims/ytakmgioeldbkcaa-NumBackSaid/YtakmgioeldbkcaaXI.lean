/- Loops of a symbolic run, where what is known is said otherwise from round to round. -/
import Derived.Test.YtakmgioeldbkcaaXH
namespace Go.Proofs.Ytakmgioeldbkcaa
open Go Go.RowKit

/-- What fits 's' fits 's'' too. -/
def Sim (s s' : St) : Prop := ∀ ρ B W a w, StS ρ s B W a w → StS ρ s' B W a w
theorem Sim.refl (s : St) : Sim s s := fun _ _ _ _ _ h => h
theorem Sim.of_eq {s s' : St} (h : s = s') : Sim s s' := h ▸ Sim.refl s

def SimC (v v' : AV) : Prop := ∀ ρ cs, RC ρ v cs → RC ρ v' cs
theorem SimC.refl (v : AV) : SimC v v := fun _ _ h => h
def SimB : Option Blk → Option Blk → Prop
  | none, none => True
  | some b, some b' => b.t = b'.t ∧ b.own = b'.own ∧ SimC b.v b'.v
  | _, _ => False
def SimH : Heap → Heap → Prop
  | [], [] => True
  | x :: H, x' :: H' => SimB x x' ∧ SimH H H'
  | _, _ => False
def SimS : List AV → List AV → Prop
  | [], [] => True
  | v :: l, v' :: l' => (∀ ρ x, RV ρ v x → RV ρ v' x) ∧ SimS l l'
  | _, _ => False
theorem SimH.refl : ∀ H : Heap, SimH H H
  | [] => trivial
  | none :: H => ⟨trivial, SimH.refl H⟩
  | some _ :: H => ⟨⟨rfl, rfl, SimC.refl _⟩, SimH.refl H⟩
theorem SimS.refl : ∀ l : List AV, SimS l l
  | [] => trivial
  | _ :: l => ⟨fun _ _ h => h, SimS.refl l⟩
theorem SimS.len : ∀ {l l' : List AV}, SimS l l' → l.length = l'.length
  | [], [], _ => rfl
  | [], _ :: _, h => h.elim
  | _ :: _, [], h => h.elim
  | _ :: _, _ :: _, h => by simp [SimS.len h.2]
theorem SimS.get {ρ : Env} : ∀ {l l' : List AV}, SimS l l' → ∀ i x, RV ρ (sget l i) x → RV ρ (sget l' i) x
  | [], [], _, _, _, h => h
  | [], _ :: _, h, _, _, _ => h.elim
  | _ :: _, [], h, _, _, _ => h.elim
  | _ :: _, _ :: _, h, 0, x, hx => h.1 ρ x hx
  | _ :: _, _ :: _, h, i + 1, x, hx => SimS.get h.2 i x hx
theorem SimH.get : ∀ {H H' : Heap}, SimH H H' → ∀ k, SimB (hget H k) (hget H' k)
  | [], [], _, k => by simp [hget_nil, SimB]
  | [], _ :: _, h, _ => h.elim
  | _ :: _, [], h, _ => h.elim
  | none :: H, none :: H', h, 0 => trivial
  | some b :: H, some b' :: H', h, 0 => h.1
  | none :: H, some b' :: H', h, 0 => h.1.elim
  | some b :: H, none :: H', h, 0 => h.1.elim
  | x :: H, x' :: H', h, k + 1 => by
    have := SimH.get h.2 k
    cases x <;> cases x' <;> exact this

theorem Sim.of {s s' : St} (hs : SimS s.ss s'.ss) (hH : SimH s.H s'.H) : Sim s s' := by
  intro ρ B W a w h
  refine ⟨fun i => hs.get i _ (h.sl i), ?_, h.df, ?_⟩
  · show s'.ss.length = _
    rw [← hs.len]; exact h.len
  · have hr : Rep ρ s.H B W w := h.rep
    refine ⟨hr.below, hr.bnd, ?_, hr.inj, ?_⟩
    · intro k x hk
      have hk : hget s'.H k = some x := hk
      have hb := hH.get k
      rw [hk] at hb
      cases hg : hget s.H k with
      | none => rw [hg] at hb; exact hb.elim
      | some y =>
        rw [hg] at hb
        obtain ⟨e1, e2, e3⟩ := hb
        obtain ⟨b, cs, mk, h1, h2, h3, h4⟩ := hr.blk k y hg
        exact ⟨b, cs, mk, h1, by rw [← e1]; exact h2, e3 ρ cs h3, by rw [← e2]; exact h4⟩
    · intro k hk
      have hk : hget s'.H k = none := hk
      have hb := hH.get k
      rw [hk] at hb
      cases hg : hget s.H k with
      | none => exact hr.dom k hg
      | some y => rw [hg] at hb; exact hb.elim

section
variable {P : Program}

/-- One round, and what is kept of it. -/
def stepX (X : EnvX P) (n : Nat) (gi : FI P) (path : List Nat) (keep : List Nat) (m : Nat) (s : St) : Option (List Bool × Ex × St) :=
  (exec X n gi (0 :: path) 0 (loopAt gi path) s).map fun r => (r.1, r.2.1, forget keep m r.2.2.2)

theorem hget_long {m : Nat} : ∀ (H : Heap) (k : Nat), H.length ≤ k → hget H k = none
  | [], k, _ => hget_nil k
  | _ :: _, 0, h => by simp at h
  | _ :: H, k + 1, h => hget_long (m := m) H k (by simpa using h)

theorem rounds_sim (hm : P.follows .mixedOrders = true) (X X' : EnvX P) (n : Nat) (gi : FI P) (path : List Nat) (st : Nat → St) (keep : List Nat) (m N : Nat) (e : Ex) (s0 sf : St)
    (hsub : subC gi.body path = some (.loop (loopAt gi path))) (hs0 : Sim s0 (st 0)) (hH : ∀ i, i ≤ N → (st i).H.length ≤ m)
    (hstep : ∀ i, i < N → ∃ ob s2, stepX X n gi path keep m (st i) = some (ob, .normal, s2) ∧ (∀ b ∈ ob, b = true) ∧ belowSt m s2 = true ∧ Sim s2 (st (i + 1)))
    (hend : ∃ ob last, exec X' n gi (0 :: path) 0 (loopAt gi path) (st N) = some (ob, e, last, sf) ∧ (∀ b ∈ ob, b = true)) (hne : e ≠ .normal) : CodeOK P (.loop (loopAt gi path)) s0 e sf := by
  have hsub2 : subC gi.body (0 :: path) = some (loopAt gi path) := by simp [subC, hsub, child]
  intro ρ B W a w Q hst0 hq
  have hst := hs0 ρ B W a w hst0
  refine wp_loop_rounds (N + 1) ?_
  have key : ∀ d i (ρ : Env) (a : Act) (w : World), i + d = N → StS ρ (st i) B W a w → (∀ ρ' a' w', Env.le ρ ρ' → StS ρ' sf B W a' w' → Q e.to a' w') → Code.rounds P (loopAt gi path) Q (d + 1) a w := by
    intro d
    induction d with
    | zero =>
      intro i ρ a w hi hst hq
      have : i = N := by omega
      subst this
      obtain ⟨ob, last, h1, h2⟩ := hend
      rw [rounds_succ]
      refine exec_sound hm X' n gi _ _ _ _ _ _ _ _ hsub2 h1 h2 ρ B W a w _ hst fun ρ' a' w' hle hst' => ?_
      cases e with
      | normal => exact absurd rfl hne
      | exit id => exact hq ρ' a' w' hle hst'
      | ret => exact hq ρ' a' w' hle hst'
    | succ d ih =>
      intro i ρ a w hi hst hq
      obtain ⟨ob, s2, h1, h2, h3, h4⟩ := hstep i (by omega)
      unfold stepX at h1
      cases hx : exec X n gi (0 :: path) 0 (loopAt gi path) (st i) with
      | none => simp [hx] at h1
      | some r =>
        obtain ⟨ob', e', last, s1⟩ := r
        simp [hx] at h1; obtain ⟨rfl, rfl, rfl⟩ := h1
        rw [rounds_succ]
        refine exec_sound hm X n gi _ _ _ _ _ _ _ _ hsub2 hx h2 ρ B W a w _ hst fun ρ' a' w' hle hst' => ?_
        have hst2 := h4 _ _ _ _ _ (forget_sound (keep := keep) (m := m) h3 hst')
        refine ih (i + 1) (cutE m ρ') a' w' (by omega) hst2 fun ρ2 a2 w2 hle2 hst3 => hq ρ2 a2 w2 ?_ hst3
        intro k b hk
        refine hle2 k b ?_
        have hkm : k < m := by
          rcases Nat.lt_or_ge k m with h | h
          · exact h
          · have hd : hget (st i).H k = none := hget_long (m := m) _ k (by have := hH i (by omega); omega)
            have hr : Rep ρ (st i).H B W w := hst.rep
            rw [hr.dom k hd] at hk
            simp at hk
        simp only [cutE, hkm, if_true]
        exact hle k b hk
  exact key N 0 ρ a w (by omega) hst hq
end

theorem SimC.u4 {l : List Int} {y : BitVec 256} (h : l = [limb y 0, limb y 1, limb y 2, limb y 3]) : SimC (.ints .u64 4 l) (.u y) := by
  subst h
  intro ρ cs hc
  simp only [RC] at hc ⊢
  obtain ⟨_, rfl⟩ := hc
  rfl
theorem SimC.of_u4 {l : List Int} {y : BitVec 256} (h : l = [limb y 0, limb y 1, limb y 2, limb y 3]) : SimC (.u y) (.ints .u64 4 l) := by
  subst h
  intro ρ cs hc
  simp only [RC] at hc ⊢
  exact ⟨rfl, by rw [hc]; rfl⟩
end Go.Proofs.Ytakmgioeldbkcaa
