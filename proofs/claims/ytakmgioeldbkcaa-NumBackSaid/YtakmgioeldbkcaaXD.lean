/- The symbolic run of a function's text. -/
import Derived.Test.YtakmgioeldbkcaaXC
import Derived.LoopN
namespace Go.Proofs.Ytakmgioeldbkcaa
open Go Go.RowKit

/-! ### Which operations stand before which -/
def edgesOn (j : Nat) : List Edge → Bool
  | [] => true
  | e :: l => (match Region.binds .any e with
    | true => Nat.ble (e.on + 1) j
    | false => true) && edgesOn j l

def allOn : Nat → List Oper → Bool
  | _, [] => true
  | j, o :: l => edgesOn j o.after.toList && allOn (j + 1) l

def nth0 : List Nat → Nat → Nat
  | [], _ => 0
  | x :: _, 0 => x
  | _ :: l, k + 1 => nth0 l k

def maskOf (acc : List Nat) : List Edge → Nat → Nat
  | [], m => m
  | e :: l, m => match Region.binds .any e with
    | true => maskOf acc l (m ||| 2 ^ e.on ||| nth0 acc e.on)
    | false => maskOf acc l m

def masks : List Oper → List Nat → List Nat
  | [], acc => acc
  | o :: l, acc => masks l (acc ++ [maskOf acc o.after.toList 0])

section
variable {ops : Array Oper}

theorem edgesOn_spec {j : Nat} : ∀ (l : List Edge), edgesOn j l = true → ∀ e ∈ l, Region.binds .any e = true → e.on < j
  | [], _, e, he, _ => by simp at he
  | x :: l, h, e, he, hb => by
    simp only [edgesOn, Bool.and_eq_true] at h
    simp only [List.mem_cons] at he
    rcases he with rfl | he
    · rw [hb] at h; exact Nat.le_of_ble_eq_true h.1
    · exact edgesOn_spec l h.2 e he hb

theorem allOn_spec : ∀ (l : List Oper) (k : Nat), allOn k l = true → ∀ j o, l[j]? = some o → ∀ e ∈ o.after, Region.binds .any e = true → e.on < k + j
  | [], k, _, j, o, h, _, _, _ => by simp at h
  | x :: l, k, h, 0, o, ho, e, he, hb => by
    simp only [allOn, Bool.and_eq_true] at h
    simp at ho; subst ho
    exact edgesOn_spec _ h.1 e (by simpa using he) hb
  | x :: l, k, h, j + 1, o, ho, e, he, hb => by
    simp only [allOn, Bool.and_eq_true] at h
    have := allOn_spec l (k + 1) h.2 j o (by simpa using ho) e he hb
    omega

theorem maskOf_spec {acc : List Nat} {j : Nat} {o : Oper} (ho : ops[j]? = some o) (hacc : ∀ k i, (nth0 acc k).testBit i = true → Bef ops i k) : ∀ (l : List Edge) (m : Nat), (∀ e ∈ l, e ∈ o.after) → (∀ i, m.testBit i = true → Bef ops i j) →
    ∀ i, (maskOf acc l m).testBit i = true → Bef ops i j
  | [], m, _, hm, i, h => hm i h
  | e :: l, m, hl, hm, i, h => by
    simp only [maskOf] at h
    split at h
    · rename_i hb
      refine maskOf_spec ho hacc l _ (fun e' he' => hl e' (by simp [he'])) ?_ i h
      intro i' hi'
      rw [Nat.testBit_or, Nat.testBit_or, Bool.or_eq_true, Bool.or_eq_true] at hi'
      rcases hi' with (h1 | h1) | h1
      · exact hm i' h1
      · rw [Nat.testBit_two_pow] at h1
        simp at h1
        subst h1
        exact .one ho (hl e (by simp)) hb
      · exact .more ho (hl e (by simp)) hb (hacc _ _ h1)
    · exact maskOf_spec ho hacc l m (fun e' he' => hl e' (by simp [he'])) hm i h

theorem nth0_append (l : List Nat) (x k : Nat) : nth0 (l ++ [x]) k = if k < l.length then nth0 l k else if k = l.length then x else 0 := by
  induction l generalizing k with
  | nil => cases k <;> simp [nth0]
  | cons y l ih =>
    cases k with
    | zero => simp [nth0]
    | succ k => simp only [List.cons_append, nth0, ih, List.length_cons]; simp

theorem nth0_ge (l : List Nat) (k : Nat) (h : l.length ≤ k) : nth0 l k = 0 := by
  induction l generalizing k with
  | nil => rfl
  | cons y l ih => cases k with
    | zero => simp at h
    | succ k => exact ih k (by simpa using h)

theorem masks_spec : ∀ (l : List Oper) (acc : List Nat), (∀ j o, l[j]? = some o → ops[acc.length + j]? = some o) → (∀ k i, (nth0 acc k).testBit i = true → Bef ops i k) → ∀ k i, (nth0 (masks l acc) k).testBit i = true → Bef ops i k
  | [], acc, _, h, k, i, hk => h k i hk
  | o :: l, acc, hl, h, k, i, hk => by
    refine masks_spec l (acc ++ [maskOf acc o.after.toList 0]) ?_ ?_ k i hk
    · intro j o' ho'
      have := hl (j + 1) o' (by simpa using ho')
      simp only [List.length_append, List.length_singleton]
      rw [show acc.length + 1 + j = acc.length + (j + 1) by omega]
      exact this
    · intro k' i' hk'
      rw [nth0_append] at hk'
      split at hk'
      · exact h k' i' hk'
      · split at hk'
        · rename_i e; subst e
          exact maskOf_spec (hl 0 o rfl) h o.after.toList 0 (by simp) (by simp) i' hk'
        · simp at hk'
end

section
variable {P : Program}

/-! ### A region -/
def runL (P : Program) (cs : List (Ctr P)) (hi : Hint) (ops : List Oper) (nk : Nat) : Nat → List Oper → RS → Option (List (Nat × Eff) × RS)
  | _, [], s => some ([], s)
  | i, o :: l, s => match opEff P cs hi ops (nk + i) s.1 (hget s.2) o with
    | some E => (runL P cs hi ops nk (i + 1) l (sput s.1 o.dst E.v, Eff.app s.2 E.wr)).map fun r => ((i, E) :: r.1, r.2)
    | none => none

def pairOK (ops : Array Oper) (ms : List Nat) (q r : Nat × Eff) : Bool :=
  (nth0 ms r.1).testBit q.1 || apartAt ops q.1 r.1 && keysApart q.2 r.2

def pairsOK (ops : Array Oper) (ms : List Nat) : List (Nat × Eff) → Bool
  | [] => true
  | q :: L => L.all (pairOK ops ms q) && pairsOK ops ms L

def obsOf : List (Nat × Eff) → List Bool
  | [] => []
  | q :: L => q.2.ob ++ obsOf L

structure St where
  ss : List AV
  H : Heap
  nk : Nat

abbrev St.rs (s : St) : RS := (s.ss, s.H)

def drawn (P : Program) (cs : List (Ctr P)) (hi : Hint) (ops : Array Oper) (s : St) : Option (List Bool × St) :=
  match runL P cs hi ops.toList s.nk 0 ops.toList s.rs with
  | some (L, sf) => match allOn 0 ops.toList && pairsOK ops (masks ops.toList []) L with
    | true => some (obsOf L, ⟨sf.1, sf.2, s.nk + ops.toList.length⟩)
    | false => none
  | none => none

theorem runL_spec {cs : List (Ctr P)} {hi : Hint} {ops : List Oper} {nk : Nat} : ∀ (l : List Oper) (i : Nat) (s sf : RS) (L : List (Nat × Eff)), (∀ j, l[j]? = ops[i + j]?) → runL P cs hi ops nk i l s = some (L, sf) →
    Run P cs hi ops nk L s sf ∧ L.map (·.1) = List.range' i l.length
  | [], i, s, sf, L, _, h => by simp [runL] at h; obtain ⟨rfl, rfl⟩ := h; exact ⟨rfl, rfl⟩
  | o :: l, i, s, sf, L, hl, h => by
    simp only [runL] at h
    split at h <;> try contradiction
    rename_i E hE
    cases hr : runL P cs hi ops nk (i + 1) l (sput s.1 o.dst E.v, Eff.app s.2 E.wr) with
    | none => simp [hr] at h
    | some r =>
      simp [hr] at h; obtain ⟨rfl, rfl⟩ := h
      have ho : ops[i]? = some o := by have := hl 0; simpa using this.symm
      obtain ⟨h1, h2⟩ := runL_spec l (i + 1) _ r.2 r.1 (fun j => by have := hl (j + 1); simp at this; rw [this]; congr 1; omega) hr
      have hd : dstOf ops i = o.dst := by rw [dstOf_eq, ho]; rfl
      refine ⟨⟨?_, ?_⟩, by simp [h2, List.range'_succ]⟩
      · simp only [effAt, ho, hE]
      · simpa only [appAt, hd] using h1

theorem obsOf_mem : ∀ (L : List (Nat × Eff)), (∀ b ∈ obsOf L, b = true) → ∀ q ∈ L, ∀ b ∈ q.2.ob, b = true
  | [], _, q, hq, _, _ => by simp at hq
  | x :: L, h, q, hq, b, hb => by
    simp only [obsOf, List.mem_append] at h
    simp only [List.mem_cons] at hq
    rcases hq with rfl | hq
    · exact h b (.inl hb)
    · exact obsOf_mem L (fun b hb => h b (.inr hb)) q hq b hb

theorem pairsOK_spec {ops : Array Oper} {ms : List Nat} (hms : ∀ k i, (nth0 ms k).testBit i = true → Bef ops i k) : ∀ (L : List (Nat × Eff)) (i n : Nat), L.map (·.1) = List.range' i n → pairsOK ops ms L = true →
    L.Pairwise fun q r => q.1 < r.1 ∧ (Bef ops q.1 r.1 ∨ apartAt ops q.1 r.1 = true ∧ keysApart q.2 r.2 = true)
  | [], _, _, _, _ => List.Pairwise.nil
  | q :: L, i, n, hm, h => by
    simp only [pairsOK, Bool.and_eq_true] at h
    cases n with
    | zero => simp at hm
    | succ n =>
      simp only [List.map_cons, List.range'_succ, List.cons.injEq] at hm
      refine List.pairwise_cons.2 ⟨fun r hr => ?_, pairsOK_spec hms L (i + 1) n hm.2 h.2⟩
      have hr1 : r.1 ∈ List.range' (i + 1) n := by rw [← hm.2]; exact List.mem_map_of_mem hr
      have := List.mem_range'_1.1 hr1
      refine ⟨by omega, ?_⟩
      have := List.all_eq_true.1 h.1 r hr
      simp only [pairOK, Bool.or_eq_true, Bool.and_eq_true] at this
      exact this.imp (hms _ _) id

def StS (ρ : Env) (s : St) (B : Nat) (W : World) (a : Act) (w : World) : Prop := StR ρ s.rs B W a w

inductive Ex where
  | normal
  | exit (id : Nat)
  | ret

def Ex.to : Ex → Exit
  | .normal => .normal
  | .exit id => .exit id
  | .ret => .ret

/-- The code leads from 's' to 's''. -/
def CodeOK (P : Program) (c : Code) (s : St) (e : Ex) (s' : St) : Prop :=
  ∀ (ρ : Env) (B : Nat) (W : World) (a : Act) (w : World) (Q : Exit → Act → World → Prop), StS ρ s B W a w →
    (∀ ρ' a' w', Env.le ρ ρ' → StS ρ' s' B W a' w' → Q e.to a' w') → c.wp P Q a w

theorem StR.drew {ρ : Env} {s : RS} {B : Nat} {W w : World} {a : Act} (h : StR ρ s B W a w) : StR ρ s B W a { w with drawn := w.drawn + 1 } := ⟨h.sl, h.len, h.df, h.rep.drew⟩

theorem drawn_sound {cs : List (Ctr P)} {hi : Hint} {ops : Array Oper} {s s' : St} {ob : List Bool} {id : Nat} (hm : P.follows .mixedOrders = true) (h : drawn P cs hi ops s = some (ob, s')) (hob : ∀ b ∈ ob, b = true) :
    CodeOK P (.region id ops true) s .normal s' := by
  intro ρ B W a w Q hst hq
  unfold drawn at h
  split at h <;> try contradiction
  rename_i L sf hL
  split at h <;> try contradiction
  rename_i hc
  simp at h; obtain ⟨rfl, rfl⟩ := h
  simp only [Bool.and_eq_true] at hc
  obtain ⟨h1, h2⟩ := runL_spec ops.toList 0 s.rs sf L (by simp) hL
  have hms := masks_spec (ops := ops) ops.toList [] (by simp) (by simp [nth0])
  refine wp_region_any hm ?_
  refine run_any (fun j o e ho he hb => by have := allOn_spec ops.toList 0 hc.1 j o (by simpa using ho) e he hb; omega) sf ops.size L _ s.rs ρ a _ ?_ h1 (obsOf_mem L hob) (by simp) (pairsOK_spec hms L 0 _ h2 hc.2) ?_ ?_ ?_ hst.drew (fun ρ' a' w' h3 h4 => hq ρ' a' w' h3 h4)
  · have := congrArg List.length h2; simpa using this
  · intro j hj
    have hmem : j ∈ L.map (·.1) := by rw [h2]; exact List.mem_range'_1.2 (by simp; omega)
    obtain ⟨q, hq1, hq2⟩ := List.mem_map.1 hmem
    constructor
    · intro _; exact ⟨q, hq1, hq2⟩
    · intro _; simp [hj]
  · intro q hq1
    have hmem : q.1 ∈ L.map (·.1) := List.mem_map_of_mem hq1
    rw [h2] at hmem
    have := List.mem_range'_1.1 hmem
    simpa using this.2
  · intro i j hlis _
    simp [Array.getD_eq_getD_getElem?, Array.getElem?_replicate] at hlis
    split at hlis <;> simp at hlis

/-! ### A region in the text's order; calls that are walked into -/
def calleeOf (P : Program) (ss : List AV) (o : Oper) : Option (Nat × List AV) :=
  match o.op with
  | .call c => match c.callee with
    | .value x => match evS ss x with
      | .fn f cap => match cap.all AV.one && (evArgs P ss c.argTypes.toList c.args.toList).all AV.noTup with
        | true => some (f, evArgs P ss c.argTypes.toList c.args.toList ++ cap)
        | false => none
      | _ => none
    | _ => none
  | _ => none

abbrev Cal := Nat → List AV → Heap → Nat → Option (List Bool × AV × Heap × Nat)

def CalOK (P : Program) (cal : Cal) : Prop :=
  ∀ f args H nk ob v H' nk', cal f args H nk = some (ob, v, H', nk') → (∀ b ∈ ob, b = true) → ∀ ρ B W w xs, Rep ρ H B W w → RV1s ρ args xs →
    CallOK P f xs.toArray w fun x w' => ∃ ρ', Env.le ρ ρ' ∧ RV ρ' v x ∧ Rep ρ' H' B W w'

def runOps (P : Program) (cs : List (Ctr P)) (hi : Hint) (cal : Cal) (ops : List Oper) : List Oper → St → Option (List Bool × St)
  | [], s => some ([], s)
  | o :: l, s => match opEff P cs hi ops s.nk s.ss (hget s.H) o with
    | some E => (runOps P cs hi cal ops l ⟨sput s.ss o.dst E.v, Eff.app s.H E.wr, s.nk + 1⟩).map fun r => (E.ob ++ r.1, r.2)
    | none => match calleeOf P s.ss o, wantedA hi.dec ops s.ss o with
      | some (f, args), some (ob0, true) => match cal f args s.H s.nk with
        | some (ob, v, H', nk') => (runOps P cs hi cal ops l ⟨sput s.ss o.dst v, H', nk'⟩).map fun r => (ob0 ++ ob ++ r.1, r.2)
        | none => none
      | _, _ => none

theorem runOps_sound {cs : List (Ctr P)} {hi : Hint} {cal : Cal} (hcal : CalOK P cal) {ops : Array Oper} : ∀ (l : List Oper) (i : Nat) (s s' : St) (ob : List Bool), (∀ j, l[j]? = ops.toList[i + j]?) → runOps P cs hi cal ops.toList l s = some (ob, s') → (∀ b ∈ ob, b = true) →
    ∀ (ρ : Env) (B : Nat) (W : World) (a : Act) (w : World) (Q : Exit → Act → World → Prop), StS ρ s B W a w → (∀ ρ' a' w', Env.le ρ ρ' → StS ρ' s' B W a' w' → Q .normal a' w') → wpOps P ops Q (List.range' i l.length) a w
  | [], i, s, s', ob, _, h, _, ρ, B, W, a, w, Q, hst, hq => by
    simp [runOps] at h; obtain ⟨_, rfl⟩ := h
    exact hq ρ a w (Env.le.refl ρ) hst
  | o :: l, i, s, s', ob, hl, h, hob, ρ, B, W, a, w, Q, hst, hq => by
    have ho : ops.toList[i]? = some o := by have := hl 0; simpa using this.symm
    have ho' : ops[i]? = some o := by simpa using ho
    have hl' : ∀ j, l[j]? = ops.toList[i + 1 + j]? := fun j => by have := hl (j + 1); simp at this; rw [this]; simp; congr 1; omega
    rw [List.length_cons, List.range'_succ, wpOps_cons]
    have next : ∀ (ρ' : Env) (v : AV) (x : Value) (H' : Heap) (nk' : Nat) (w' : World) (ob' : List Bool), Env.le ρ ρ' → RV ρ' v x → Rep ρ' H' B W w' → runOps P cs hi cal ops.toList l ⟨sput s.ss o.dst v, H', nk'⟩ = some (ob', s') → (∀ b ∈ ob', b = true) →
        wpOps P ops Q (List.range' (i + 1) l.length) (a.put o.dst x) w' := by
      intro ρ' v x H' nk' w' ob' h1 h2 h3 hrun hob'
      obtain ⟨p1, p2⟩ := (hst.sl.mono h1).put hst.len o.dst h2
      refine runOps_sound hcal l (i + 1) _ s' ob' hl' hrun hob' ρ' B W _ w' Q ⟨p1, p2, ?_, h3⟩ (fun ρ2 a2 w2 h4 h5 => hq ρ2 a2 w2 (h1.trans h4) h5)
      have : (a.put o.dst x).defers = a.defers := by cases o.dst <;> rfl
      rw [this]; exact hst.df
    simp only [runOps] at h
    split at h
    · rename_i E hE
      cases hr : runOps P cs hi cal ops.toList l ⟨sput s.ss o.dst E.v, Eff.app s.H E.wr, s.nk + 1⟩ with
      | none => simp [hr] at h
      | some r =>
        simp [hr] at h; obtain ⟨rfl, rfl⟩ := h
        exact opEff_sound hst.rep hst.sl ho' hE (fun b hb => hob b (by simp [hb])) fun ρ' x w' h1 h2 h3 => next ρ' E.v x _ _ w' r.1 h1 h2 h3 hr (fun b hb => hob b (by simp [hb]))
    · split at h <;> try contradiction
      rename_i f args ob0 hf hwa
      split at h <;> try contradiction
      rename_i ob1 v H' nk' hc
      cases hr : runOps P cs hi cal ops.toList l ⟨sput s.ss o.dst v, H', nk'⟩ with
      | none => simp [hr] at h
      | some r =>
        simp [hr] at h; obtain ⟨rfl, rfl⟩ := h
        have hwa := wantedA_sound hst.sl hwa (fun b hb => hob b (by simp [hb]))
        unfold calleeOf at hf
        split at hf <;> try contradiction
        rename_i c hop
        split at hf <;> try contradiction
        rename_i x hcb
        have hx := evS_RV hst.sl x
        split at hf <;> try contradiction
        rename_i g cap e
        split at hf <;> try contradiction
        rename_i hcc
        simp at hf; obtain ⟨rfl, rfl⟩ := hf
        simp only [Bool.and_eq_true] at hcc
        have e : evS s.rs.1 x = .fn g cap := e
        rw [e] at hx
        simp only [RV, RV1, RC] at hx
        obtain ⟨xs, hxs, e2⟩ := hx
        simp at e2
        have hcall := hcal _ _ _ _ _ _ _ _ hc (fun b hb => hob b (by simp [hb])) ρ B W w _ hst.rep (RV1s_append _ _ _ _ (evArgs_RV (a := a) hst.sl _ _ hcc.2) (RV1s_of_RCs _ _ hcc.1 hxs))
        unfold wpOp
        rw [ho']
        simp only
        rw [if_pos hwa]
        refine .inl ?_
        unfold Oper.wp
        rw [call_run (a := a) hop hcb e2]
        rcases hcall with ⟨y, hy, ρ', h1, h2, h3⟩ | ⟨hrun, hcalls⟩
        · rw [hy]
          exact next ρ' v y H' nk' w r.1 h1 h2 h3 hr (fun b hb => hob b (by simp [hb]))
        · rw [hrun]
          refine hcalls.mono ?_
          rintro en w' ⟨y, rfl, ρ', h1, h2, h3⟩
          exact next ρ' v y H' nk' w' r.1 h1 h2 h3 hr (fun b hb => hob b (by simp [hb]))

theorem region_sound {cs : List (Ctr P)} {hi : Hint} {cal : Cal} (hcal : CalOK P cal) {ops : Array Oper} {s s' : St} {ob : List Bool} {id : Nat} (h : runOps P cs hi cal ops.toList ops.toList s = some (ob, s')) (hob : ∀ b ∈ ob, b = true) :
    CodeOK P (.region id ops false) s .normal s' := by
  intro ρ B W a w Q hst hq
  refine wp_region ?_
  rw [List.range_eq_range', ← Array.length_toList]
  exact runOps_sound hcal ops.toList 0 s s' ob (by simp) h hob ρ B W a w Q hst hq
end
end Go.Proofs.Ytakmgioeldbkcaa
