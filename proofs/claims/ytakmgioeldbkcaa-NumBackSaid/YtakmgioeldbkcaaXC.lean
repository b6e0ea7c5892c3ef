/- A region of a symbolic run, in the text's order and in whatever order. -/
import Derived.Test.YtakmgioeldbkcaaXB
namespace Go.Proofs.Ytakmgioeldbkcaa
open Go Go.RowKit

abbrev RS := List AV × Heap

structure StR (ρ : Env) (s : RS) (B : Nat) (W : World) (a : Act) (w : World) : Prop where
  sl : SlotsR ρ s.1 a.tmps
  len : s.1.length = a.tmps.size
  df : a.defers = []
  rep : Rep ρ s.2 B W w

section
variable {P : Program} {ρ : Env} {B : Nat} {W w : World} {a : Act} {ops : Array Oper} {cs : List (Ctr P)} {hi : Hint} {nk : Nat}

def effAt (P : Program) (cs : List (Ctr P)) (hi : Hint) (ops : List Oper) (nk i : Nat) (s : RS) : Option Eff :=
  match ops[i]? with
  | some o => opEff P cs hi ops (nk + i) s.1 (hget s.2) o
  | none => none

def appAt (ops : List Oper) (i : Nat) (E : Eff) (s : RS) : RS := (sput s.1 (dstOf ops i) E.v, Eff.app s.2 E.wr)

def Run (P : Program) (cs : List (Ctr P)) (hi : Hint) (ops : List Oper) (nk : Nat) : List (Nat × Eff) → RS → RS → Prop
  | [], s, sf => s = sf
  | (i, E) :: L, s, sf => effAt P cs hi ops nk i s = some E ∧ Run P cs hi ops nk L (appAt ops i E s) sf

theorem effAt_sound {i : Nat} {E : Eff} {s : RS} {K : Act → World → Prop} {Q : Exit → Act → World → Prop} (hs : StR ρ s B W a w) (h : effAt P cs hi ops.toList nk i s = some E) (hob : ∀ b ∈ E.ob, b = true)
    (hK : ∀ ρ' a' w', Env.le ρ ρ' → StR ρ' (appAt ops.toList i E s) B W a' w' → K a' w') : wpOp P ops Q i K a w := by
  unfold effAt at h
  split at h <;> try contradiction
  rename_i o hoi
  have hoi' : ops[i]? = some o := by simpa using hoi
  refine opEff_sound hs.rep hs.sl hoi' h hob fun ρ' x w' h1 h2 h3 => hK ρ' _ w' h1 ?_
  have hd : dstOf ops.toList i = o.dst := by rw [dstOf_eq, hoi]; rfl
  obtain ⟨p1, p2⟩ := (hs.sl.mono h1).put hs.len o.dst h2
  refine ⟨?_, ?_, ?_, h3⟩
  · simpa [appAt, hd] using p1
  · simpa [appAt, hd] using p2
  · have : (a.put o.dst x).defers = a.defers := by cases o.dst <;> rfl
    rw [this]; exact hs.df

def keysApart (E F : Eff) : Bool :=
  match E.wr, F.wr with
  | none, none => true
  | some (k, _), none => !F.rd.contains k
  | none, some (k, _) => !E.rd.contains k
  | some (k, _), some (j, _) => !F.rd.contains k && !E.rd.contains j && !Nat.beq k j

def apartAt (ops : Array Oper) (i j : Nat) : Bool :=
  match ops.toList[i]?, ops.toList[j]? with
  | some x, some y => x.apart ops y
  | _, _ => false

theorem app_get {H : Heap} {E : Eff} {k : Nat} (h : ∀ q, E.wr = some q → q.1 ≠ k) : hget (Eff.app H E.wr) k = hget H k := by
  cases hw : E.wr with
  | none => rfl
  | some q =>
    have := h q hw
    obtain ⟨k', b⟩ := q
    simp only [Eff.app]
    rw [hget_hset, if_neg (fun e => this e.symm)]

theorem commute {i j : Nat} {Ei Ej : Eff} {s : RS} (ha : apartAt ops i j = true) (hk : keysApart Ei Ej = true) (hi' : effAt P cs hi ops.toList nk i s = some Ei)
    (hj : effAt P cs hi ops.toList nk j (appAt ops.toList i Ei s) = some Ej) :
    effAt P cs hi ops.toList nk j s = some Ej ∧ effAt P cs hi ops.toList nk i (appAt ops.toList j Ej s) = some Ei ∧
      appAt ops.toList j Ej (appAt ops.toList i Ei s) = appAt ops.toList i Ei (appAt ops.toList j Ej s) := by
  unfold apartAt at ha
  split at ha <;> try contradiction
  rename_i x y hx hy
  obtain ⟨a1, a2, a3⟩ := Oper.apart_spec ha
  have hdi : dstOf ops.toList i = x.dst := by rw [dstOf_eq, hx]; rfl
  have hdj : dstOf ops.toList j = y.dst := by rw [dstOf_eq, hy]; rfl
  have rdj : ∀ k ∈ Ej.rd, ∀ q, Ei.wr = some q → q.1 ≠ k := by
    intro k hkr q hq e
    subst e
    unfold keysApart at hk
    rw [hq] at hk
    split at hk <;> simp_all
  have rdi : ∀ k ∈ Ei.rd, ∀ q, Ej.wr = some q → q.1 ≠ k := by
    intro k hkr q hq e
    subst e
    unfold keysApart at hk
    rw [hq] at hk
    split at hk <;> simp_all
  unfold effAt at hi' hj ⊢
  rw [hx] at hi' ⊢
  rw [hy] at hj ⊢
  simp only at hi' hj ⊢
  have slot : ∀ (ss : List AV) (d : Option Nat) (v : AV) (t : Nat), (∀ e, d = some e → e ≠ t) → sget (sput ss d v) t = sget ss t := by
    intro ss d v t h
    cases d with
    | none => rfl
    | some d =>
      simp only [sput, sget_sset]
      rw [if_neg (fun hh => h d rfl hh.1.symm)]
  refine ⟨?_, ?_, ?_⟩
  · refine opEff_local hj (fun t ht => ?_) (fun k hkr => (app_get (rdj k hkr)).symm)
    simp only [appAt, hdi]
    exact (slot _ _ _ _ (fun e he => fun e2 => a1 e he (e2 ▸ ht))).symm
  · refine opEff_local hi' (fun t ht => ?_) (fun k hkr => app_get (rdi k hkr))
    simp only [appAt, hdj]
    exact slot _ _ _ _ (fun e he => fun e2 => a3 e he (e2 ▸ ht))
  · simp only [appAt, hdi, hdj]
    refine Prod.ext ?_ ?_
    · simp only
      cases hxd : x.dst with
      | none => rfl
      | some d =>
        cases hyd : y.dst with
        | none => rfl
        | some e =>
          simp only [sput]
          exact sset_comm _ _ _ _ _ (fun h => a2 d hxd (by rw [hyd, h]))
    · simp only
      cases hwi : Ei.wr with
      | none => rfl
      | some q =>
        cases hwj : Ej.wr with
        | none => rfl
        | some r =>
          obtain ⟨k, b⟩ := q
          obtain ⟨l, c⟩ := r
          simp only [Eff.app]
          apply hset_comm
          intro e
          subst e
          unfold keysApart at hk
          rw [hwi, hwj] at hk
          simp at hk

theorem run_front {j : Nat} {Ej : Eff} : ∀ (L1 L2 : List (Nat × Eff)) (s sf : RS), Run P cs hi ops.toList nk (L1 ++ (j, Ej) :: L2) s sf → (∀ q ∈ L1, apartAt ops q.1 j = true ∧ keysApart q.2 Ej = true) →
    effAt P cs hi ops.toList nk j s = some Ej ∧ Run P cs hi ops.toList nk (L1 ++ L2) (appAt ops.toList j Ej s) sf
  | [], L2, s, sf, h, _ => h
  | (i, Ei) :: L1, L2, s, sf, h, hq => by
    obtain ⟨h1, h2⟩ := h
    obtain ⟨h3, h4⟩ := run_front L1 L2 _ sf h2 (fun q hq' => hq q (by simp [hq']))
    obtain ⟨q1, q2⟩ := hq (i, Ei) (by simp)
    obtain ⟨c1, c2, c3⟩ := commute q1 q2 h1 h3
    exact ⟨c1, c2, by rw [← c3]; exact h4⟩

/-- 'i' stands before 'j' by the edges. -/
inductive Bef (ops : Array Oper) : Nat → Nat → Prop
  | one {j : Nat} {o : Oper} {e : Edge} : ops[j]? = some o → e ∈ o.after → Region.binds .any e = true → Bef ops e.on j
  | more {i j : Nat} {o : Oper} {e : Edge} : ops[j]? = some o → e ∈ o.after → Region.binds .any e = true → Bef ops i e.on → Bef ops i j

theorem Bef.inv {ops : Array Oper} {i j : Nat} (h : Bef ops i j) : ∃ (o : Oper) (e : Edge), ops[j]? = some o ∧ e ∈ o.after ∧ Region.binds .any e = true ∧ (i = e.on ∨ Bef ops i e.on) := by
  cases h with
  | one ho he hb => exact ⟨_, _, ho, he, hb, .inl rfl⟩
  | more ho he hb h2 => exact ⟨_, _, ho, he, hb, .inr h2⟩

theorem ready_iff {listed : Array Bool} {j : Nat} (h : j ∈ Region.ready .any ops listed) : j < ops.size ∧ listed.getD j true = false ∧ ∃ o, ops[j]? = some o ∧ ∀ e ∈ o.after, Region.binds .any e = true → listed.getD e.on false = true := by
  unfold Region.ready at h
  simp only [List.mem_filter, List.mem_range, Bool.and_eq_true, Bool.not_eq_true'] at h
  obtain ⟨h1, h2, h3⟩ := h
  refine ⟨h1, h2, ops[j], by simp [h1], ?_⟩
  rw [Array.getElem?_eq_getElem h1] at h3
  simp only [Option.map_some, Option.getD_some] at h3
  rw [Array.all_eq_true'] at h3
  intro e he hb
  have := h3 e he
  simpa [hb] using this

/-- Whatever order the tape picks. -/
theorem run_any {Q : Exit → Act → World → Prop} (hon : ∀ (j : Nat) (o : Oper) (e : Edge), ops[j]? = some o → e ∈ o.after → Region.binds .any e = true → e.on < j) (sf : RS) :
    ∀ (n : Nat) (L : List (Nat × Eff)) (listed : Array Bool) (s : RS) (ρ : Env) (a : Act) (w : World), L.length = n → Run P cs hi ops.toList nk L s sf → (∀ q ∈ L, ∀ b ∈ q.2.ob, b = true) →
    listed.size = ops.size → L.Pairwise (fun q r => q.1 < r.1 ∧ (Bef ops q.1 r.1 ∨ apartAt ops q.1 r.1 = true ∧ keysApart q.2 r.2 = true)) → (∀ j, j < ops.size → (listed.getD j true = false ↔ ∃ q ∈ L, q.1 = j)) →
    (∀ q ∈ L, q.1 < ops.size) → (∀ i j, listed.getD j false = true → Bef ops i j → listed.getD i false = true) →
    StR ρ s B W a w → (∀ ρ' a' w', Env.le ρ ρ' → StR ρ' sf B W a' w' → Q .normal a' w') → wpAny P .any ops Q n listed a w := by
  intro n
  induction n with
  | zero =>
    intro L listed s ρ a w hl hrun _ hsz _ hiff _ _ hst hq
    have : L = [] := by cases L <;> simp_all
    subst this
    refine ⟨?_, hq ρ a w (Env.le.refl ρ) (by rw [show sf = s from hrun.symm]; exact hst)⟩
    apply List.eq_nil_iff_forall_not_mem.2
    intro j hj
    obtain ⟨h1, h2, _⟩ := ready_iff hj
    obtain ⟨q, hq, _⟩ := (hiff j h1).1 h2
    simp at hq
  | succ n ih =>
    intro L listed s ρ a w hl hrun hob hsz hpw hiff hlt hcl hst hq
    refine ⟨fun hnil => ?_, fun j hj => ?_⟩
    · -- the first that is left is ready
      exfalso
      cases L with
      | nil => simp at hl
      | cons q L =>
        obtain ⟨i, Ei⟩ := q
        have hi' := hlt (i, Ei) (by simp)
        simp only at hi'
        have hun := (hiff i hi').2 ⟨(i, Ei), by simp, rfl⟩
        have : i ∈ Region.ready .any ops listed := by
          unfold Region.ready
          simp only [List.mem_filter, List.mem_range, Bool.and_eq_true, Bool.not_eq_true']
          refine ⟨hi', hun, ?_⟩
          rw [Array.getElem?_eq_getElem hi']
          simp only [Option.map_some, Option.getD_some]
          rw [Array.all_eq_true']
          intro e he
          cases hb : Region.binds .any e with
          | false => simp
          | true =>
            have hlt' := hon i ops[i] e (by simp [hi']) he hb
            have hlis : listed.getD e.on true = true := by
              cases hh : listed.getD e.on true with
              | true => rfl
              | false =>
                obtain ⟨q, hq, e1⟩ := (hiff e.on (by omega)).1 hh
                simp only [List.mem_cons] at hq
                rcases hq with rfl | hq
                · simp only at e1; omega
                · have := (List.pairwise_cons.1 hpw).1 q hq
                  simp only at this; omega
            have hlt2 : e.on < listed.size := by omega
            simp [hlt2] at hlis ⊢
            exact hlis
        rw [hnil] at this
        simp at this
    · obtain ⟨h1, h2, o, ho, hpred⟩ := ready_iff hj
      obtain ⟨⟨j', Ej⟩, hmem, rfl⟩ := (hiff j h1).1 h2
      obtain ⟨L1, L2, rfl⟩ := List.append_of_mem hmem
      have hno : ∀ q ∈ L1, ¬ Bef ops q.1 j' := by
        intro q hqL hbef
        have hun : listed.getD q.1 true = false := (hiff q.1 (hlt q (by simp [hqL]))).2 ⟨q, by simp [hqL], rfl⟩
        have hl2 : listed.getD q.1 false = true := by
          obtain ⟨o', e, ho', he, hb, h3⟩ := hbef.inv
          rw [ho] at ho'; simp at ho'; subst ho'
          rcases h3 with h3 | h3
          · rw [h3]; exact hpred e he hb
          · exact hcl _ _ (hpred e he hb) h3
        have hlt2 : q.1 < listed.size := by rw [hsz]; exact hlt q (by simp [hqL])
        simp [hlt2] at hun hl2
        rw [hun] at hl2; simp at hl2
      have hpw2 := List.pairwise_append.1 hpw
      have hind : ∀ q ∈ L1, apartAt ops q.1 j' = true ∧ keysApart q.2 Ej = true := by
        intro q hqL
        rcases (hpw2.2.2 q hqL (j', Ej) (by simp)).2 with hb | hb
        · exact absurd hb (hno q hqL)
        · exact hb
      obtain ⟨r1, r2⟩ := run_front L1 L2 s sf hrun hind
      refine effAt_sound hst r1 (hob (j', Ej) (by simp)) fun ρ' a' w' hle hst' => ?_
      have hjs : j' < listed.size := by rw [hsz]; exact h1
      refine ih (L1 ++ L2) (listed.setIfInBounds j' true) _ ρ' a' w' (by simp at hl ⊢; omega) r2 (fun q hqL => hob q (by simp at hqL ⊢; rcases hqL with h | h <;> simp [h])) (by simp [hsz]) ?_ ?_
        (fun q hqL => hlt q (by simp at hqL ⊢; rcases hqL with h | h <;> simp [h])) ?_ hst' (fun ρ2 a2 w2 h => hq ρ2 a2 w2 (hle.trans h))
      · refine List.pairwise_append.2 ⟨hpw2.1, (List.pairwise_cons.1 hpw2.2.1).2, fun q hq1 r hr => hpw2.2.2 q hq1 r (by simp [hr])⟩
      · intro k hk
        by_cases e : k = j'
        · subst e
          simp only [Array.getD_eq_getD_getElem?, Array.getElem?_setIfInBounds, if_pos hjs]
          simp
          intro Ex
          constructor
          · intro hx
            have := (hpw2.2.2 (k, Ex) hx (k, Ej) (by simp)).1; simp at this
          · intro hx
            have := ((List.pairwise_cons.1 hpw2.2.1).1 (k, Ex) hx).1; simp at this
        · have hk2 := hiff k hk
          have : (listed.setIfInBounds j' true).getD k true = listed.getD k true := by
            simp only [Array.getD_eq_getD_getElem?, Array.getElem?_setIfInBounds]
            rw [if_neg (fun h => e h.symm)]
          rw [this, hk2]
          constructor
          · rintro ⟨q, hq1, rfl⟩
            refine ⟨q, ?_, rfl⟩
            simp only [List.mem_append, List.mem_cons] at hq1 ⊢
            rcases hq1 with h | rfl | h
            · exact .inl h
            · exact absurd rfl e
            · exact .inr h
          · rintro ⟨q, hq1, rfl⟩
            refine ⟨q, ?_, rfl⟩
            simp only [List.mem_append, List.mem_cons] at hq1 ⊢
            rcases hq1 with h | h
            · exact .inl h
            · exact .inr (.inr h)
      · intro i k hk hb
        have key : ∀ m, listed.getD m false = true → (listed.setIfInBounds j' true).getD m false = true := by
          intro m hm
          simp only [Array.getD_eq_getD_getElem?, Array.getElem?_setIfInBounds] at hm ⊢
          split
          · rename_i e; subst e; simp
          · exact hm
        by_cases e : k = j'
        · subst e
          apply key
          obtain ⟨o', e, ho', he, hb2, h3⟩ := hb.inv
          rw [ho] at ho'; simp at ho'; subst ho'
          rcases h3 with h3 | h3
          · rw [h3]; exact hpred e he hb2
          · exact hcl _ _ (hpred e he hb2) h3
        · apply key
          have : listed.getD k false = true := by
            simp only [Array.getD_eq_getD_getElem?, Array.getElem?_setIfInBounds] at hk ⊢
            rw [if_neg (fun h => e h.symm)] at hk
            exact hk
          exact hcl i k this hb
end
end Go.Proofs.Ytakmgioeldbkcaa
