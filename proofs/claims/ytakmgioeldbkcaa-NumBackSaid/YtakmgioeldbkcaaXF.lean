/- Contracts of functions that hang on their arguments alone. -/
import Derived.Test.YtakmgioeldbkcaaXE
import Derived.Laws.Externs
import Derived.KernelRfl
namespace Go.Proofs.Ytakmgioeldbkcaa
open Go Go.RowKit

def ρ0 : Env := fun _ => none

mutual
/-- Without places, and numbers of 256 bits as such. -/
def norm : AV → Option (List Bool × AV)
  | .bool b => some ([], .bool b)
  | .int k n => some ([], .int k n)
  | .str s => some ([], .str s)
  | .u x => some ([], .u x)
  | .ints k n l => match uOf true (.ints k n l) with
    | some (ob, x) => some (ob, .u x)
    | none => some ([], .ints k n l)
  | .agg l => (normL l).map fun r => (r.1, .agg r.2)
  | .nilp => some ([], .nilp)
  | .nilsl => some ([], .nilsl)
  | .nilfn => some ([], .nilfn)
  | .fn f cap => match cap with
    | [] => some ([], .fn f [])
    | _ => none
  | _ => none
def normL : List AV → Option (List Bool × List AV)
  | [] => some ([], [])
  | v :: l => match norm v with
    | some (o1, v') => (normL l).map fun r => (o1 ++ r.1, v' :: r.2)
    | none => none
end

mutual
theorem norm_RC {ρ : Env} : ∀ (v : AV) (cs : List Value) (ob : List Bool) (v' : AV), RC ρ v cs → norm v = some (ob, v') → (∀ b ∈ ob, b = true) → RC ρ0 v' cs
  | .bool b, cs, ob, v', hr, h, _ => by simp [norm] at h; obtain ⟨_, rfl⟩ := h; simpa only [RC] using hr
  | .int k n, cs, ob, v', hr, h, _ => by simp [norm] at h; obtain ⟨_, rfl⟩ := h; simpa only [RC] using hr
  | .str s, cs, ob, v', hr, h, _ => by simp [norm] at h; obtain ⟨_, rfl⟩ := h; simpa only [RC] using hr
  | .u y, cs, ob, v', hr, h, _ => by simp [norm] at h; obtain ⟨_, rfl⟩ := h; simpa only [RC] using hr
  | .ints k n l, cs, ob, v', hr, h, hob => by
    simp only [norm] at h
    split at h
    · rename_i o x hu
      simp at h; obtain ⟨rfl, rfl⟩ := h
      have := uOf_sound hu hob hr
      simpa only [RC] using this
    · simp at h; obtain ⟨_, rfl⟩ := h
      simpa only [RC] using hr
  | .agg l, cs, ob, v', hr, h, hob => by
    simp only [norm] at h
    cases hl : normL l with
    | none => simp [hl] at h
    | some r =>
      simp [hl] at h; obtain ⟨rfl, rfl⟩ := h
      simp only [RC] at hr ⊢
      exact normL_RC l cs r.1 r.2 hr hl hob
  | .nilp, cs, ob, v', hr, h, _ => by simp [norm] at h; obtain ⟨_, rfl⟩ := h; simpa only [RC] using hr
  | .nilsl, cs, ob, v', hr, h, _ => by simp [norm] at h; obtain ⟨_, rfl⟩ := h; simpa only [RC] using hr
  | .nilfn, cs, ob, v', hr, h, _ => by simp [norm] at h; obtain ⟨_, rfl⟩ := h; simpa only [RC] using hr
  | .fn f cap, cs, ob, v', hr, h, _ => by
    simp only [norm] at h
    split at h <;> try contradiction
    simp at h; obtain ⟨_, rfl⟩ := h
    simpa only [RC, RCs] using hr
  | .any, cs, ob, v', hr, h, _ => by simp [norm] at h
  | .undef, cs, ob, v', hr, h, _ => by simp [norm] at h
  | .tup l, cs, ob, v', hr, h, _ => by simp [norm] at h
  | .ptr k p, cs, ob, v', hr, h, _ => by simp [norm] at h
  | .sl k p n c, cs, ob, v', hr, h, _ => by simp [norm] at h
  | .raw v, cs, ob, v', hr, h, _ => by simp [norm] at h
theorem normL_RC {ρ : Env} : ∀ (l : List AV) (cs : List Value) (ob : List Bool) (l' : List AV), RCs ρ l cs → normL l = some (ob, l') → (∀ b ∈ ob, b = true) → RCs ρ0 l' cs
  | [], cs, ob, l', hr, h, _ => by simp [normL] at h; obtain ⟨_, rfl⟩ := h; simpa only [RCs] using hr
  | v :: l, cs, ob, l', hr, h, hob => by
    simp only [normL] at h
    split at h <;> try contradiction
    rename_i o1 v' hv
    cases hl : normL l with
    | none => simp [hl] at h
    | some r =>
      simp [hl] at h; obtain ⟨rfl, rfl⟩ := h
      simp only [RCs] at hr ⊢
      obtain ⟨c1, c2, h1, h2, rfl⟩ := hr
      exact ⟨c1, c2, norm_RC v c1 o1 v' h1 hv (fun b hb => hob b (by simp [hb])), normL_RC l c2 r.1 r.2 h2 hl (fun b hb => hob b (by simp [hb])), rfl⟩
end

theorem norm_kind : ∀ (v : AV) (ob : List Bool) (v' : AV), norm v = some (ob, v') → (v.isAgg = true ∧ v'.isAgg = true) ∨ (v.one = true ∧ v' = v)
  | v, ob, v', h => by
    cases v <;> simp only [norm] at h <;> try contradiction
    case agg l =>
      cases hl : normL l with
      | none => simp [hl] at h
      | some r => simp [hl] at h; obtain ⟨rfl, rfl⟩ := h; exact .inl ⟨rfl, rfl⟩
    case ints k n l =>
      split at h <;> simp at h <;> obtain ⟨rfl, rfl⟩ := h <;> exact .inl ⟨rfl, rfl⟩
    case u x => simp at h; obtain ⟨rfl, rfl⟩ := h; exact .inl ⟨rfl, rfl⟩
    case fn f cap =>
      split at h <;> simp at h
      obtain ⟨rfl, rfl⟩ := h
      exact .inr ⟨rfl, rfl⟩
    all_goals (simp at h; obtain ⟨rfl, rfl⟩ := h; exact .inr ⟨rfl, rfl⟩)

theorem norm_RV1 {ρ : Env} {v : AV} {x : Value} {ob : List Bool} {v' : AV} (hr : RV1 ρ v x) (h : norm v = some (ob, v')) (hob : ∀ b ∈ ob, b = true) : RV1 ρ0 v' x := by
  rcases norm_kind v ob v' h with ⟨h1, h2⟩ | ⟨h1, rfl⟩
  · obtain ⟨cs, rfl, hc⟩ := RV_agg (RV_of_RV1 hr) h1
    have := norm_RC v cs ob v' hc h hob
    have hn : v'.noTup = true := by cases v' <;> first | rfl | simp [AV.isAgg] at h2
    exact RV1_of_RV (RV.of_cells this h2) hn
  · have hc : RC ρ v' [x] := by
      cases v' <;> simp only [AV.one] at h1 <;> first | contradiction | exact hr
    have := norm_RC v' [x] ob v' hc h hob
    cases v' <;> simp only [AV.one] at h1 <;> first | contradiction | exact this

theorem normL_RV1s {ρ : Env} : ∀ (l : List AV) (xs : List Value) (ob : List Bool) (l' : List AV), RV1s ρ l xs → normL l = some (ob, l') → (∀ b ∈ ob, b = true) → RV1s ρ0 l' xs
  | [], xs, ob, l', hr, h, _ => by simp [normL] at h; obtain ⟨_, rfl⟩ := h; simpa only [RV1s] using hr
  | v :: l, xs, ob, l', hr, h, hob => by
    simp only [normL] at h
    split at h <;> try contradiction
    rename_i o1 v' hv
    cases hl : normL l with
    | none => simp [hl] at h
    | some r =>
      simp [hl] at h; obtain ⟨rfl, rfl⟩ := h
      simp only [RV1s] at hr ⊢
      obtain ⟨x, ys, h1, h2, rfl⟩ := hr
      exact ⟨x, ys, norm_RV1 h1 hv (fun b hb => hob b (by simp [hb])), normL_RV1s l ys r.1 r.2 h2 hl (fun b hb => hob b (by simp [hb])), rfl⟩

theorem RV.ofρ0 {v : AV} {x : Value} (h : RV ρ0 v x) (ρ : Env) : RV ρ v x := h.mono (fun k b hb => by simp [ρ0] at hb)

section
variable {P : Program}

/-- The call comes to 'v', and writes nothing of what was there. -/
def Pure (P : Program) (f : Nat) (args : List AV) (v : AV) : Prop :=
  ∀ (xs : List Value) (w : World), RV1s ρ0 args xs → CallOK P f xs.toArray w fun x w' => RV ρ0 v x ∧ Below w.heap.size w w'

theorem CallOK.mono {f : Nat} {xs : Array Value} {w : World} {R R' : Value → World → Prop} (h : CallOK P f xs w R) (hr : ∀ x w', R x w' → R' x w') : CallOK P f xs w R' := by
  rcases h with ⟨x, h1, h2⟩ | ⟨h1, h2⟩
  · exact .inl ⟨x, h1, hr x w h2⟩
  · exact .inr ⟨h1, h2.mono fun e w' ⟨x, he, hx⟩ => ⟨x, he, hr x w' hx⟩⟩

theorem Pure.mono {f : Nat} {args : List AV} {v v' : AV} (h : Pure P f args v) (hv : ∀ x, RV ρ0 v x → RV ρ0 v' x) : Pure P f args v' :=
  fun xs w hx => (h xs w hx).mono fun x _ ⟨h1, h2⟩ => ⟨hv x h1, h2⟩

/-- A contract out of its law: 'g' of arguments without places. -/
def Ctr.of (f : Nat) (g : List AV → Option (List Bool × AV)) (ok : ∀ args ob v, g args = some (ob, v) → (∀ b ∈ ob, b = true) → Pure P f args v) : Ctr P where
  f := f
  g := fun args _ => match normL args with
    | some (o1, args') => (g args').map fun r => { v := r.2, ob := o1 ++ r.1 }
    | none => none
  loc := by intro args lk lk' E h _; exact h
  ok := by
    intro ρ H B W w args xs E h hob hr ha
    (try simp only at h)
    split at h <;> try contradiction
    rename_i o1 args' hn
    cases hg : g args' with
    | none => simp [hg] at h
    | some r =>
      simp [hg] at h; subst h
      have ha' := normL_RV1s args xs o1 args' ha hn (fun b hb => hob b (by simp [hb]))
      refine (ok args' r.1 r.2 hg (fun b hb => hob b (by simp [hb])) xs w ha').mono ?_
      rintro x w' ⟨h1, h2⟩
      exact ⟨ρ, Env.le.refl ρ, h1.ofρ0 ρ, hr.later h2⟩

/-- Out of a symbolic run. -/
theorem Pure.of_exec (hm : P.follows .mixedOrders = true) (X : EnvX P) (n f : Nat) (args : List AV) (ob : List Bool) (v v' : AV) (o1 : List Bool) (h : (callX X (exec X n) f args [] 0).map (fun r => (r.1, r.2.1)) = some (ob, v)) (hob : ∀ b ∈ ob, b = true)
    (hn : norm v = some (o1, v')) (ho1 : ∀ b ∈ o1, b = true) : Pure P f args v' := by
  intro xs w hx
  cases hc : callX X (exec X n) f args [] 0 with
  | none => simp [hc] at h
  | some r =>
    obtain ⟨ob', u, H', nk'⟩ := r
    simp [hc] at h; obtain ⟨rfl, rfl⟩ := h
    refine (Calls.of_exec hm X n f 0 args [] H' _ _ nk' hc hob (Rep.start w) hx).mono ?_
    rintro x w' ⟨ρ', _, h2, h3⟩
    have hnt : u.noTup = true := by cases u <;> first | rfl | simp [norm] at hn
    exact ⟨RV_of_RV1 (norm_RV1 (RV1_of_RV h2 hnt) hn ho1), h3.below⟩

theorem Pure.of_exec_tup (hm : P.follows .mixedOrders = true) (X : EnvX P) (n f : Nat) (args : List AV) (ob : List Bool) (l l' : List AV) (o1 : List Bool) (h : (callX X (exec X n) f args [] 0).map (fun r => (r.1, r.2.1)) = some (ob, .tup l)) (hob : ∀ b ∈ ob, b = true)
    (hn : normL l = some (o1, l')) (ho1 : ∀ b ∈ o1, b = true) : Pure P f args (.tup l') := by
  intro xs w hx
  cases hc : callX X (exec X n) f args [] 0 with
  | none => simp [hc] at h
  | some r =>
    obtain ⟨ob', u, H', nk'⟩ := r
    simp [hc] at h; obtain ⟨rfl, rfl⟩ := h
    refine (Calls.of_exec hm X n f 0 args [] H' _ _ nk' hc hob (Rep.start w) hx).mono ?_
    rintro x w' ⟨ρ', _, h2, h3⟩
    refine ⟨?_, h3.below⟩
    simp only [RV] at h2 ⊢
    obtain ⟨ys, h4, rfl⟩ := h2
    exact ⟨ys, normL_RV1s l ys o1 l' h4 hn ho1, rfl⟩

/-! ### bits.Add64, bits.Sub64 -/
def m64 : Nat := 18446744073709551616
def addS (x y c : Int) : Int := (((x.toNat + y.toNat + c.toNat) % 18446744073709551616 : Nat) : Int)
def addC (x y c : Int) : Int := (((x.toNat + y.toNat + c.toNat) / 18446744073709551616 : Nat) : Int)
def subS (x y b : Int) : Int := (((x.toNat + 18446744073709551616 - y.toNat - b.toNat) % 18446744073709551616 : Nat) : Int)
def subB (x y b : Int) : Int := ((if x.toNat < y.toNat + b.toNat then 1 else 0 : Nat) : Int)

def add64Entry' : Array Value → Sem Value := fun args => do
  let (x, y, c) ← Extern.MathBitsCarry.three "Add64" args
  pure (Extern.MathBitsCarry.pair ((x + y + c) % Extern.MathBitsCarry.m64) ((x + y + c) / Extern.MathBitsCarry.m64))
def sub64Entry' : Array Value → Sem Value := fun args => do
  let (x, y, b) ← Extern.MathBitsCarry.three "Sub64" args
  pure (Extern.MathBitsCarry.pair ((x + Extern.MathBitsCarry.m64 - y - b) % Extern.MathBitsCarry.m64) (if x < y + b then 1 else 0))

theorem run_three (nm : String) (x y c : Int) (hc : c.toNat ≤ 1) (w : World) : (Extern.MathBitsCarry.three nm #[.int .u64 x, .int .u64 y, .int .u64 c]).run P w = .ok (x.toNat, y.toNat, c.toNat) w := by
  cases c with
  | ofNat k =>
    have : k = 0 ∨ k = 1 := by have : (Int.ofNat k).toNat = k := rfl
                               omega
    rcases this with rfl | rfl <;> rfl
  | negSucc k => rfl

def carryG (s c : Int → Int → Int → Int) : List AV → Option (List Bool × AV)
  | [.int .u64 x, .int .u64 y, .int .u64 z] => some ([Nat.ble z.toNat 1], .tup [.int .u64 (s x y z), .int .u64 (c x y z)])
  | _ => none

theorem carryG_inv {s c : Int → Int → Int → Int} {args : List AV} {ob : List Bool} {v : AV} (h : carryG s c args = some (ob, v)) : ∃ x y z, args = [.int .u64 x, .int .u64 y, .int .u64 z] ∧ ob = [Nat.ble z.toNat 1] ∧ v = .tup [.int .u64 (s x y z), .int .u64 (c x y z)] := by
  unfold carryG at h
  split at h
  · simp at h; exact ⟨_, _, _, rfl, h.1.symm, h.2.symm⟩
  · contradiction

theorem RV1s_3 {ρ : Env} {k : IntKind} {x y z : Int} {xs : List Value} (h : RV1s ρ [.int k x, .int k y, .int k z] xs) : xs = [.int k x, .int k y, .int k z] := by
  simp only [RV1s, RV1, RC] at h
  obtain ⟨a, _, h1, ⟨b, _, h2, ⟨c, _, h3, rfl, rfl⟩, rfl⟩, rfl⟩ := h
  simp at h1 h2 h3
  subst h1 h2 h3
  rfl

def ctrAdd64 (f : Nat) {fn : Func} (hf : P.funcs[f]? = some fn) (hname : (fn.name == "runtime.NumGoroutine") = false) (hb : fn.body.isNone = true) (hn : Extern.findNext fn = none) (he : Extern.find fn = some add64Entry') : Ctr P :=
  Ctr.of f (carryG addS addC) (by
    intro args ob v h hob xs w hx
    obtain ⟨x, y, z, rfl, rfl, rfl⟩ := carryG_inv h
    have hz := Nat.le_of_ble_eq_true (hob (Nat.ble z.toNat 1) (by simp))
    rw [RV1s_3 hx]
    refine .inl ⟨.tuple #[.int .u64 (addS x y z), .int .u64 (addC x y z)], ?_, by simp only [RV, RV1s, RV1, RC]; exact ⟨_, ⟨_, _, rfl, ⟨_, _, rfl, rfl, rfl⟩, rfl⟩, rfl⟩, Below.refl _ _⟩
    rw [run_callFunc_extern hf hname hb hn he]
    simp only [add64Entry', Sem.run_bind, run_three _ x y z hz, Result.andThen_ok, Sem.run_pure, Extern.MathBitsCarry.pair, Extern.MathBitsCarry.m64]
    rfl)

def ctrSub64 (f : Nat) {fn : Func} (hf : P.funcs[f]? = some fn) (hname : (fn.name == "runtime.NumGoroutine") = false) (hb : fn.body.isNone = true) (hn : Extern.findNext fn = none) (he : Extern.find fn = some sub64Entry') : Ctr P :=
  Ctr.of f (carryG subS subB) (by
    intro args ob v h hob xs w hx
    obtain ⟨x, y, z, rfl, rfl, rfl⟩ := carryG_inv h
    have hz := Nat.le_of_ble_eq_true (hob (Nat.ble z.toNat 1) (by simp))
    rw [RV1s_3 hx]
    refine .inl ⟨.tuple #[.int .u64 (subS x y z), .int .u64 (subB x y z)], ?_, by simp only [RV, RV1s, RV1, RC]; exact ⟨_, ⟨_, _, rfl, ⟨_, _, rfl, rfl, rfl⟩, rfl⟩, rfl⟩, Below.refl _ _⟩
    rw [run_callFunc_extern hf hname hb hn he]
    simp only [sub64Entry', Sem.run_bind, run_three _ x y z hz, Result.andThen_ok, Sem.run_pure, Extern.MathBitsCarry.pair, Extern.MathBitsCarry.m64]
    rfl)

theorem callFunc_enter {f : Nat} {fn : Func} {body : Code} (hf : P.funcs[f]? = some fn) (hname : (fn.name == "runtime.NumGoroutine") = false) (hb : fn.body = some body) (xs : Array Value) (w : World) : (callFunc f xs).run P w = .ok (.enter f xs) w := by
  have h1 : fn.name ≠ "runtime.NumGoroutine" := by simpa using hname
  simp [callFunc, hf, h1, hb]

def FI.of (f : Nat) (fn : Func) (body : Code) (hf : P.funcs[f]? = some fn) (hname : (fn.name == "runtime.NumGoroutine") = false) (hb : fn.body = some body) : FI P := ⟨f, fn, body, hf, hb, callFunc_enter hf hname hb⟩
end
end Go.Proofs.Ytakmgioeldbkcaa
