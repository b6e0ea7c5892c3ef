/- A row out of a walk: the law returns 'true' and writes nothing of what was there. -/
import Derived.Test.YtakmgioeldbkcaaRows
import Derived.Test.YtakmgioeldbkcaaK2
import Derived.Test.YtakmgioeldbkcaaK3
import Derived.ProofKit
import Derived.OpenShut
import Derived.Laws.IdiomArrays
namespace Go.Proofs.Ytakmgioeldbkcaa
open Go Go.RowKit Go.ChangeShapes Go.WideShapes Go.ChangeAt

theorem Try.own : ownKnob Try.prog.godebug = none := by kernel_rfl
theorem Try.laidOut : laidOutB Try.prog = true := by kernel_rfl

theorem trodAll_below {H : Type} {enc : TypeId × Value → H} {P : Program} (hl : laidOutB P = true) {W W' : World} (hb : Below W.heap.size W W') :
    ∀ (ts : List TypeId) (vs : List Value) (ds : List (DataW H)) (ps : List MemPlace), ts.all (fun t => P.readableRec t && decide (t < P.types.size)) = true →
      DataW.TrodAll enc P W 0 (fun _ => true) true ts vs ds ps → (∀ x ∈ ps, x.block < W.heap.size) →
      DataW.TrodAll enc P W' 0 (fun b => decide (b < W.heap.size)) true ts vs ds ps
  | [], vs, ds, ps, _, h, _ => by
    obtain ⟨rfl, rfl, rfl⟩ := trodAll_nil h
    exact trodAll_mk0
  | t :: ts, vs, ds, ps, hr, h, hlt => by
    obtain ⟨v, vs', d, ds', p, p', rfl, rfl, rfl, h1, h2⟩ := trodAll_cons h
    simp only [List.all_cons, Bool.and_eq_true, decide_eq_true_eq] at hr
    exact Go.trodAll_cons_mk (Below.trod hl hr.1.1 hr.1.2 h1 hb (fun x hx => hlt x (by simp [hx]))) (trodAll_below hl hb ts vs' ds' p' hr.2 h2 (fun x hx => hlt x (by simp [hx])))

/-- What a law's walk has to show. -/
def Walk (P : Program) (f : Nat) (ts : List TypeId) : Prop :=
  ∀ (H : Type) (enc : TypeId × Value → H) (W : World) (base : Nat) (vs : List Value) (ds : List (DataW H)) (ps : List MemPlace),
    (∀ (j : Nat) t v, ts[j]? = some t → vs[j]? = some v → Value.okWide P W .any base t v) →
    DataW.TrodAll enc P W 0 (fun _ => true) true ts vs ds ps →
    Calls P f vs.toArray W fun e W' => e = .returned (.bool true) ∧ Below W.heap.size W W'

set_option maxRecDepth 100000 in
theorem lifted_of {s : ChangeSpec} {conds : List PathCond} (f : Nat) (fn : Func) (tb : TypeId) (hb : Try.prog.underlying tb = some .bool) (hres : fn.resultTypes = #[tb]) (hvars : s.vars = [])
    (hfn : Try.prog.funcs[f]? = some fn) (hread : fn.params.toList.all (fun t => Try.prog.readableRec t && decide (t < Try.prog.types.size)) = true)
    (hs : ∀ (H : Type) (ds : List (DataW H)), ds.length = fn.params.size → s.fn H ds = { results := [.lit (.bool true)], args := ds })
    (noInit : Try.prog.inits.idxOf? f = none) (hw : Walk Try.prog f fn.params.toList) (os : Os) (started : os.Started) (H : Type) (enc : TypeId × Value → H)
    (witness : ∃ (w : World) (tape : Tape) (i : Input), w.os = os ∧ (w.forCall tape i).Shaped Try.prog ∧ i.vars = [] ∧ Input.okWide Try.prog (w.forCall tape i) .any w.heap.size f i ∧
      s.pre6 enc Try.prog fn conds false (w.forCall tape i).memory i.args ∧ Assume.holds {} Try.prog (lone (Frame.enter Try.prog f i.args .normal) [] (w.forCall tape i))) :
    ReturnsInHanded {} Try.checked os f .any (s.pre6 enc Try.prog fn conds false) (s.post enc Try.prog fn false true false false) := by
  refine returnsInHanded_of_change (C := Try.checked) Try.own started noInit hfn witness ?_
  intro W base args ds gs before hval hW _ _
  have hW' := hW
  obtain ⟨p, q, hA, hV, rfl, _, _⟩ := hW
  rw [hvars] at hV
  obtain ⟨rfl, rfl⟩ := trodVars_none hV
  have hlen : ds.length = fn.params.size := by
    have : ∀ (ts : List TypeId) (vs : List Value) (ds : List (DataW H)) (ps : List MemPlace), DataW.TrodAll enc Try.prog W 0 (fun _ => true) true ts vs ds ps → ds.length = ts.length := by
      intro ts
      induction ts with
      | nil => intro vs ds ps h; obtain ⟨rfl, rfl, rfl⟩ := trodAll_nil h; rfl
      | cons t ts ih =>
        intro vs ds ps h
        obtain ⟨v, vs', d, ds', p, p', rfl, rfl, rfl, h1, h2⟩ := trodAll_cons h
        simp [ih _ _ _ h2]
    rw [this _ _ _ _ hA, Array.length_toList]
  have hcalls := hw H enc W base args.toList ds p (by
    intro j t v hj hv
    exact hval j t v (by rw [← Array.getElem?_toList]; exact hj) (by rw [← Array.getElem?_toList]; exact hv)) hA
  have hcalls' : Calls Try.prog f args W fun e W' => e = .returned (.bool true) ∧ Below W.heap.size W W' := hcalls
  refine Calls.mono (P := Try.prog) hcalls' ?_
  rintro e W' ⟨rfl, hbel⟩
  refine ⟨.bool true, rfl, ds, [], _, [], p, [], hW', ?_, ?_, ?_, hbel.frame _, fun h => by cases h⟩
  · rw [List.append_nil, hs H ds hlen, hres]
    exact Go.trodAll_cons_mk (shut_bool hb _) trodAll_mk0
  · rw [List.append_nil, hs H ds hlen]
    exact trodAll_below Try.laidOut hbel _ _ _ _ hread hA (fun x hx => hW'.lt x (by simp [hx]))
  · rw [List.append_nil, hs H ds hlen, hvars]
    rfl

/-- From a contract. -/
theorem Walk.calls {f : Nat} {P : Program} (X : FI P) (hf : X.f = f) {args : List AV} (hp : Pure P f args (.bool true)) {vs : List Value} (hv : RV1s ρ0 args vs) (W : World) :
    Calls P f vs.toArray W fun e W' => e = .returned (.bool true) ∧ Below W.heap.size W W' := by
  subst hf
  rcases hp vs W hv with ⟨x, h1, _⟩ | ⟨_, h2⟩
  · have := X.hn vs.toArray W
    rw [this] at h1
    cases h1
  · refine h2.mono ?_
    rintro e W' ⟨x, rfl, hx, hb⟩
    simp only [RV, RV1, RC, List.cons.injEq, and_true] at hx
    exact ⟨by rw [hx], hb⟩

/-! ### An argument, opened -/
theorem dec_int {H : Type} {enc : TypeId × Value → H} {P : Program} {W : World} {base : Nat} {t : TypeId} {k : IntKind} {v : Value} {d : DataW H} {ps : List MemPlace} (ht : P.underlying t = some (.int k)) (hval : Value.okWide P W .any base t v)
    (hd : DataW.Trod enc P W 0 (fun _ => true) true t v d ps) : ∃ n, RV1 ρ0 (.int k n) v ∧ (Lit.int k n).wf = true := by
  obtain ⟨n, rfl, _, _, hw⟩ := open_int ht hval hd
  exact ⟨n, by simp only [RV1, RC], hw⟩

theorem dec_nat {H : Type} {enc : TypeId × Value → H} {P : Program} {W : World} {base : Nat} {t : TypeId} {v : Value} {d : DataW H} {ps : List MemPlace} (ht : P.underlying t = some (.int .u64)) (hval : Value.okWide P W .any base t v)
    (hd : DataW.Trod enc P W 0 (fun _ => true) true t v d ps) : ∃ n : Nat, RV1 ρ0 (.int .u64 (n : Int)) v ∧ n < 18446744073709551616 := by
  obtain ⟨n, h, hw⟩ := dec_int ht hval hd
  simp [Lit.wf, IntKind.min, IntKind.max, IntKind.signed, IntKind.bits] at hw
  obtain ⟨m, rfl⟩ := Int.eq_ofNat_of_zero_le hw.1
  exact ⟨m, h, by omega⟩

theorem trod_u64 {H : Type} {enc : TypeId × Value → H} {P : Program} {W : World} {t : TypeId} {fuel : Nat} {c : Value} {x : DataW H × List MemPlace} (ht : P.underlying t = some (.int .u64))
    (h : DataW.trod enc P W 0 (fun _ => true) true fuel t [c] = some x) : ∃ n : Nat, c = .int .u64 n ∧ n < 18446744073709551616 := by
  obtain ⟨n, h1, _, hw⟩ := DataW.trod_int ht h
  simp at h1
  simp [Lit.wf, IntKind.min, IntKind.max, IntKind.signed, IntKind.bits] at hw
  obtain ⟨m, rfl⟩ := Int.eq_ofNat_of_zero_le hw.1
  exact ⟨m, h1, by omega⟩

theorem dec_u {H : Type} {enc : TypeId × Value → H} {P : Program} {W : World} {base : Nat} {t e : TypeId} {v : Value} {d : DataW H} {ps : List MemPlace} (ht : P.underlying t = some (.array 4 e)) (he : P.underlying e = some (.int .u64)) (hce : P.cellsOf e = 1) (hct : P.cellsOf t = 4)
    (hval : Value.okWide P W .any base t v) (hd : DataW.Trod enc P W 0 (fun _ => true) true t v d ps) : ∃ a, RV1 ρ0 (.u a) v := by
  unfold Value.okWide at hval
  rw [ht] at hval
  simp only at hval
  obtain ⟨cs, rfl, hsz, _⟩ := hval
  rw [hct] at hsz
  obtain ⟨fuel, hf⟩ := hd
  simp only [Value.cells] at hf
  match cs, hsz, hf with
  | ⟨[c0, c1, c2, c3]⟩, _, hf =>
    obtain ⟨y0, y1, y2, y3, n, _, h0, h1, h2, h3⟩ := trod_array4 ht hce (by simpa using hf)
    obtain ⟨n0, rfl, b0⟩ := trod_u64 he h0
    obtain ⟨n1, rfl, b1⟩ := trod_u64 he h1
    obtain ⟨n2, rfl, b2⟩ := trod_u64 he h2
    obtain ⟨n3, rfl, b3⟩ := trod_u64 he h3
    refine ⟨BitVec.ofNat 256 (nat4 n0 n1 n2 n3), ?_⟩
    obtain ⟨e0, e1, e2, e3⟩ := limb_of (x := BitVec.ofNat 256 (nat4 n0 n1 n2 n3)) b0 b1 b2 b3 (by rw [BitVec.toNat_ofNat, Nat.mod_eq_of_lt (nat4_lt b0 b1 b2 b3)]; rfl)
    simp only [RV1, limbs, e0, e1, e2, e3]

/-- An argument's type, and what it can be. -/
structure Arg (P : Program) where
  t : TypeId
  fits : AV → Prop
  ok : ∀ (H : Type) (enc : TypeId × Value → H) (W : World) (base : Nat) (v : Value) (d : DataW H) (ps : List MemPlace), Value.okWide P W .any base t v → DataW.Trod enc P W 0 (fun _ => true) true t v d ps → ∃ a, fits a ∧ RV1 ρ0 a v

def Arg.u {P : Program} (t e : TypeId) (ht : P.underlying t = some (.array 4 e)) (he : P.underlying e = some (.int .u64)) (hce : P.cellsOf e = 1) (hct : P.cellsOf t = 4) : Arg P where
  t := t
  fits := fun v => ∃ a, v = .u a
  ok := fun _ _ _ _ _ _ _ h1 h2 => let ⟨a, h⟩ := dec_u ht he hce hct h1 h2; ⟨.u a, ⟨a, rfl⟩, h⟩

def Arg.n {P : Program} (t : TypeId) (ht : P.underlying t = some (.int .u64)) : Arg P where
  t := t
  fits := fun v => ∃ n : Nat, v = .int .u64 (n : Int) ∧ n < 18446744073709551616
  ok := fun _ _ _ _ _ _ _ h1 h2 => let ⟨n, h, hn⟩ := dec_nat ht h1 h2; ⟨_, ⟨n, rfl, hn⟩, h⟩

def Arg.i {P : Program} (k : IntKind) (t : TypeId) (ht : P.underlying t = some (.int k)) : Arg P where
  t := t
  fits := fun v => ∃ n : Int, v = .int k n ∧ (Lit.int k n).wf = true
  ok := fun _ _ _ _ _ _ _ h1 h2 => let ⟨n, h, hn⟩ := dec_int ht h1 h2; ⟨_, ⟨n, rfl, hn⟩, h⟩

def Arg.s {P : Program} (t : TypeId) (ht : P.underlying t = some .string) : Arg P where
  t := t
  fits := fun v => ∃ s : ByteArray, v = .str s ∧ s.size ≤ maxLen
  ok := fun _ _ _ _ _ _ _ h1 h2 => by
    obtain ⟨s, rfl, _, _, hs⟩ := Go.ChangeMaps.open_string ht h1 h2
    exact ⟨.str s, ⟨s, rfl, hs⟩, by simp only [RV1, RC]⟩

def Arg.b {P : Program} (t : TypeId) (ht : P.underlying t = some .bool) : Arg P where
  t := t
  fits := fun v => ∃ b : Bool, v = .bool b
  ok := fun _ _ _ _ _ _ _ h1 h2 => by
    obtain ⟨b, rfl, _, _⟩ := open_bool ht h1 h2
    exact ⟨.bool b, ⟨b, rfl⟩, by simp only [RV1, RC]⟩

def Fits {P : Program} : List (Arg P) → List AV → Prop
  | [], l => l = []
  | a :: sh, l => ∃ v vs, a.fits v ∧ Fits sh vs ∧ l = v :: vs

theorem args_open {H : Type} {enc : TypeId × Value → H} {P : Program} {W : World} {base : Nat} : ∀ (sh : List (Arg P)) (vs : List Value) (ds : List (DataW H)) (ps : List MemPlace),
    (∀ (j : Nat) t v, (sh.map (·.t))[j]? = some t → vs[j]? = some v → Value.okWide P W .any base t v) → DataW.TrodAll enc P W 0 (fun _ => true) true (sh.map (·.t)) vs ds ps → ∃ avs, Fits sh avs ∧ RV1s ρ0 avs vs
  | [], vs, ds, ps, _, h => by
    obtain ⟨rfl, rfl, rfl⟩ := trodAll_nil h
    exact ⟨[], rfl, rfl⟩
  | a :: sh, vs, ds, ps, hv, h => by
    obtain ⟨v, vs', d, ds', p, p', rfl, rfl, rfl, h1, h2⟩ := trodAll_cons h
    obtain ⟨av, hf, hr⟩ := a.ok H enc W base v d p (hv 0 a.t v rfl rfl) h1
    obtain ⟨avs, hfs, hrs⟩ := args_open sh vs' ds' p' (fun j t v hj hv' => hv (j + 1) t v hj hv') h2
    exact ⟨av :: avs, ⟨av, avs, hf, hfs, rfl⟩, v, vs', hr, hrs, rfl⟩

theorem Walk.of {P : Program} {f : Nat} (X : FI P) (hf : X.f = f) (sh : List (Arg P)) (hp : ∀ avs, Fits sh avs → Pure P f avs (.bool true)) : Walk P f (sh.map (·.t)) := by
  intro H enc W base vs ds ps hv h
  obtain ⟨avs, h1, h2⟩ := args_open sh vs ds ps hv h
  exact Walk.calls X hf (hp avs h1) h2 W

/-- At the region 'r' of 'f' every guard is taken for true. -/
def decAt (f r : Nat) : Nat → Nat → St → Hint := fun f' r' _ => match Nat.beq f f' && Nat.beq r r' with
  | true => { dec := fun _ => some true }
  | false => {}
noncomputable def argU : Arg Try.prog := Arg.u 24 22 Try.underlying24 Try.underlying22 (by kernel_rfl) (by kernel_rfl)
noncomputable def argN : Arg Try.prog := Arg.n 22 Try.underlying22
def zeroU : Value := .agg #[.int .u64 0, .int .u64 0, .int .u64 0, .int .u64 0]
def Arg.nk {P : Program} (k : IntKind) (most : Nat) (hk : ∀ n : Int, (Lit.int k n).wf = true → 0 ≤ n ∧ n < (most : Int)) (t : TypeId) (ht : P.underlying t = some (.int k)) : Arg P where
  t := t
  fits := fun v => ∃ n : Nat, v = .int k (n : Int) ∧ n < most
  ok := fun _ _ _ _ _ _ _ h1 h2 => by
    obtain ⟨n, h, hn⟩ := dec_int ht h1 h2
    obtain ⟨h3, h4⟩ := hk n hn
    obtain ⟨m, rfl⟩ := Int.eq_ofNat_of_zero_le h3
    exact ⟨_, ⟨m, rfl, by omega⟩, h⟩
theorem wf_u16 (n : Int) (h : (Lit.int .u16 n).wf = true) : 0 ≤ n ∧ n < ((65536 : Nat) : Int) := by
  simp [Lit.wf, IntKind.min, IntKind.max, IntKind.signed, IntKind.bits] at h
  omega
theorem wf_u32 (n : Int) (h : (Lit.int .u32 n).wf = true) : 0 ≤ n ∧ n < ((4294967296 : Nat) : Int) := by
  simp [Lit.wf, IntKind.min, IntKind.max, IntKind.signed, IntKind.bits] at h
  omega
theorem wf_u8 (n : Int) (h : (Lit.int .u8 n).wf = true) : 0 ≤ n ∧ n < ((256 : Nat) : Int) := by
  simp [Lit.wf, IntKind.min, IntKind.max, IntKind.signed, IntKind.bits] at h
  omega
/-- The tree says yes. -/
def T.yes : T AV → Prop
  | .leaf v => match v with
    | .bool b => b = true
    | _ => False
  | .ite c t e => (c = true → yes t) ∧ (c = false → yes e)
  | .need c t => c = true ∧ yes t
  | .bad => False
theorem T.yes_ok : ∀ {t : T AV}, t.yes → t.holds fun v => SameR v (.bool true)
  | .leaf v, h => by
    cases v <;> simp only [T.yes] at h
    subst h
    exact (SameV.bool rfl).r
  | .ite c t e, h => ⟨fun hc => T.yes_ok (h.1 hc), fun hc => T.yes_ok (h.2 hc)⟩
  | .need c t, h => ⟨h.1, T.yes_ok h.2⟩
  | .bad, h => h.elim
noncomputable def argU16 : Arg Try.prog := Arg.nk .u16 65536 wf_u16 47 Try.underlying47
noncomputable def argU32 : Arg Try.prog := Arg.nk .u32 4294967296 wf_u32 53 Try.underlying53
noncomputable def argStr : Arg Try.prog := Arg.s 9 Try.underlying9
end Go.Proofs.Ytakmgioeldbkcaa
