/- Texts of this claim, one behind the other. -/
import Derived.Test.YtglcjmnkhmdlhaaKA
import Derived.Test.YtglcjmnkhmdlhaaRows
import Derived.Test.YtglcjmnkhmdlhaaK2
import Derived.Test.YtglcjmnkhmdlhaaK3
import Derived.ProofKit
import Derived.OpenShut
import Derived.Laws.IdiomArrays

/- A row out of a walk: the law returns 'true' and writes nothing of what was there. -/
namespace Go.Proofs.Ytglcjmnkhmdlhaa
open Go Go.RowKit Go.ChangeShapes Go.WideShapes Go.ChangeAt

theorem Try.own : ownKnob Try.prog.godebug = none := by kernel_rfl
theorem Try.laidOut : laidOutB Try.prog = true := by kernel_rfl

theorem trodAll_below {H : Type} {enc : TypeId × Value → H} {P : Program} (hl : laidOutB P = true) {W W' : World} (hb : Below W.heap.size W W') :
    ∀ (ts : List TypeId) (vs : List Value) (ds : List (DataW H)) (ps : List MemPlace), ts.all (fun t => P.readableRec t && decide (t < P.types.size)) = true →
      DataW.TrodAll enc P W 0 (fun _ => true) true ts vs ds ps → (∀ x ∈ ps, x.block < W.heap.size) →
      DataW.TrodAll enc P W' 0 (fun b => decide (b < W.heap.size)) true ts vs ds ps
  | [], vs, ds, ps, _, h, _ => by
    obtain ⟨rfl, rfl, rfl⟩ := trodAll_nil h
    exact trodAll_mk0
  | t :: ts, vs, ds, ps, hr, h, hlt => by
    obtain ⟨v, vs', d, ds', p, p', rfl, rfl, rfl, h1, h2⟩ := trodAll_cons h
    simp only [List.all_cons, Bool.and_eq_true, decide_eq_true_eq] at hr
    exact Go.trodAll_cons_mk (Below.trod hl hr.1.1 hr.1.2 h1 hb (fun x hx => hlt x (by simp [hx]))) (trodAll_below hl hb ts vs' ds' p' hr.2 h2 (fun x hx => hlt x (by simp [hx])))

/-- What a law's walk has to show. -/
def Walk (P : Program) (f : Nat) (ts : List TypeId) : Prop :=
  ∀ (H : Type) (enc : TypeId × Value → H) (W : World) (base : Nat) (vs : List Value) (ds : List (DataW H)) (ps : List MemPlace),
    (∀ (j : Nat) t v, ts[j]? = some t → vs[j]? = some v → Value.okWide P W .any base t v) →
    DataW.TrodAll enc P W 0 (fun _ => true) true ts vs ds ps →
    Calls P f vs.toArray W fun e W' => e = .returned (.bool true) ∧ Below W.heap.size W W'

set_option maxRecDepth 100000 in
theorem lifted_of {s : ChangeSpec} {conds : List PathCond} (f : Nat) (fn : Func) (tb : TypeId) (hb : Try.prog.underlying tb = some .bool) (hres : fn.resultTypes = #[tb]) (hvars : s.vars = [])
    (hfn : Try.prog.funcs[f]? = some fn) (hread : fn.params.toList.all (fun t => Try.prog.readableRec t && decide (t < Try.prog.types.size)) = true)
    (hs : ∀ (H : Type) (ds : List (DataW H)), ds.length = fn.params.size → s.fn H ds = { results := [.lit (.bool true)], args := ds })
    (noInit : Try.prog.inits.idxOf? f = none) (hw : Walk Try.prog f fn.params.toList) (os : Os) (started : os.Started) (H : Type) (enc : TypeId × Value → H)
    (witness : ∃ (w : World) (tape : Tape) (i : Input), w.os = os ∧ (w.forCall tape i).Shaped Try.prog ∧ i.vars = [] ∧ Input.okWide Try.prog (w.forCall tape i) .any w.heap.size f i ∧
      s.pre6 enc Try.prog fn conds false (w.forCall tape i).memory i.args ∧ Assume.holds {} Try.prog (lone (Frame.enter Try.prog f i.args .normal) [] (w.forCall tape i))) :
    ReturnsInHanded {} Try.checked os f .any (s.pre6 enc Try.prog fn conds false) (s.post enc Try.prog fn false true false false) := by
  refine returnsInHanded_of_change (C := Try.checked) Try.own started noInit hfn witness ?_
  intro W base args ds gs before hval hW _ _
  have hW' := hW
  obtain ⟨p, q, hA, hV, rfl, _, _⟩ := hW
  rw [hvars] at hV
  obtain ⟨rfl, rfl⟩ := trodVars_none hV
  have hlen : ds.length = fn.params.size := by
    have : ∀ (ts : List TypeId) (vs : List Value) (ds : List (DataW H)) (ps : List MemPlace), DataW.TrodAll enc Try.prog W 0 (fun _ => true) true ts vs ds ps → ds.length = ts.length := by
      intro ts
      induction ts with
      | nil => intro vs ds ps h; obtain ⟨rfl, rfl, rfl⟩ := trodAll_nil h; rfl
      | cons t ts ih =>
        intro vs ds ps h
        obtain ⟨v, vs', d, ds', p, p', rfl, rfl, rfl, h1, h2⟩ := trodAll_cons h
        simp [ih _ _ _ h2]
    rw [this _ _ _ _ hA, Array.length_toList]
  have hcalls := hw H enc W base args.toList ds p (by
    intro j t v hj hv
    exact hval j t v (by rw [← Array.getElem?_toList]; exact hj) (by rw [← Array.getElem?_toList]; exact hv)) hA
  have hcalls' : Calls Try.prog f args W fun e W' => e = .returned (.bool true) ∧ Below W.heap.size W W' := hcalls
  refine Calls.mono (P := Try.prog) hcalls' ?_
  rintro e W' ⟨rfl, hbel⟩
  refine ⟨.bool true, rfl, ds, [], _, [], p, [], hW', ?_, ?_, ?_, hbel.frame _, fun h => by cases h⟩
  · rw [List.append_nil, hs H ds hlen, hres]
    exact Go.trodAll_cons_mk (shut_bool hb _) trodAll_mk0
  · rw [List.append_nil, hs H ds hlen]
    exact trodAll_below Try.laidOut hbel _ _ _ _ hread hA (fun x hx => hW'.lt x (by simp [hx]))
  · rw [List.append_nil, hs H ds hlen, hvars]
    rfl

/-- From a contract. -/
theorem Walk.calls {f : Nat} {P : Program} (X : FI P) (hf : X.f = f) {args : List AV} (hp : Pure P f args (.bool true)) {vs : List Value} (hv : RV1s ρ0 args vs) (W : World) :
    Calls P f vs.toArray W fun e W' => e = .returned (.bool true) ∧ Below W.heap.size W W' := by
  subst hf
  rcases hp vs W hv with ⟨x, h1, _⟩ | ⟨_, h2⟩
  · have := X.hn vs.toArray W
    rw [this] at h1
    cases h1
  · refine h2.mono ?_
    rintro e W' ⟨x, rfl, hx, hb⟩
    simp only [RV, RV1, RC, List.cons.injEq, and_true] at hx
    exact ⟨by rw [hx], hb⟩

/-! ### An argument, opened -/
theorem dec_int {H : Type} {enc : TypeId × Value → H} {P : Program} {W : World} {base : Nat} {t : TypeId} {k : IntKind} {v : Value} {d : DataW H} {ps : List MemPlace} (ht : P.underlying t = some (.int k)) (hval : Value.okWide P W .any base t v)
    (hd : DataW.Trod enc P W 0 (fun _ => true) true t v d ps) : ∃ n, RV1 ρ0 (.int k n) v ∧ (Lit.int k n).wf = true := by
  obtain ⟨n, rfl, _, _, hw⟩ := open_int ht hval hd
  exact ⟨n, by simp only [RV1, RC], hw⟩

theorem dec_nat {H : Type} {enc : TypeId × Value → H} {P : Program} {W : World} {base : Nat} {t : TypeId} {v : Value} {d : DataW H} {ps : List MemPlace} (ht : P.underlying t = some (.int .u64)) (hval : Value.okWide P W .any base t v)
    (hd : DataW.Trod enc P W 0 (fun _ => true) true t v d ps) : ∃ n : Nat, RV1 ρ0 (.int .u64 (n : Int)) v ∧ n < 18446744073709551616 := by
  obtain ⟨n, h, hw⟩ := dec_int ht hval hd
  simp [Lit.wf, IntKind.min, IntKind.max, IntKind.signed, IntKind.bits] at hw
  obtain ⟨m, rfl⟩ := Int.eq_ofNat_of_zero_le hw.1
  exact ⟨m, h, by omega⟩

theorem trod_u64 {H : Type} {enc : TypeId × Value → H} {P : Program} {W : World} {t : TypeId} {fuel : Nat} {c : Value} {x : DataW H × List MemPlace} (ht : P.underlying t = some (.int .u64))
    (h : DataW.trod enc P W 0 (fun _ => true) true fuel t [c] = some x) : ∃ n : Nat, c = .int .u64 n ∧ n < 18446744073709551616 := by
  obtain ⟨n, h1, _, hw⟩ := DataW.trod_int ht h
  simp at h1
  simp [Lit.wf, IntKind.min, IntKind.max, IntKind.signed, IntKind.bits] at hw
  obtain ⟨m, rfl⟩ := Int.eq_ofNat_of_zero_le hw.1
  exact ⟨m, h1, by omega⟩

theorem dec_u {H : Type} {enc : TypeId × Value → H} {P : Program} {W : World} {base : Nat} {t e : TypeId} {v : Value} {d : DataW H} {ps : List MemPlace} (ht : P.underlying t = some (.array 4 e)) (he : P.underlying e = some (.int .u64)) (hce : P.cellsOf e = 1) (hct : P.cellsOf t = 4)
    (hval : Value.okWide P W .any base t v) (hd : DataW.Trod enc P W 0 (fun _ => true) true t v d ps) : ∃ a, RV1 ρ0 (.u a) v := by
  unfold Value.okWide at hval
  rw [ht] at hval
  simp only at hval
  obtain ⟨cs, rfl, hsz, _⟩ := hval
  rw [hct] at hsz
  obtain ⟨fuel, hf⟩ := hd
  simp only [Value.cells] at hf
  match cs, hsz, hf with
  | ⟨[c0, c1, c2, c3]⟩, _, hf =>
    obtain ⟨y0, y1, y2, y3, n, _, h0, h1, h2, h3⟩ := trod_array4 ht hce (by simpa using hf)
    obtain ⟨n0, rfl, b0⟩ := trod_u64 he h0
    obtain ⟨n1, rfl, b1⟩ := trod_u64 he h1
    obtain ⟨n2, rfl, b2⟩ := trod_u64 he h2
    obtain ⟨n3, rfl, b3⟩ := trod_u64 he h3
    refine ⟨BitVec.ofNat 256 (nat4 n0 n1 n2 n3), ?_⟩
    obtain ⟨e0, e1, e2, e3⟩ := limb_of (x := BitVec.ofNat 256 (nat4 n0 n1 n2 n3)) b0 b1 b2 b3 (by rw [BitVec.toNat_ofNat, Nat.mod_eq_of_lt (nat4_lt b0 b1 b2 b3)]; rfl)
    simp only [RV1, limbs, e0, e1, e2, e3]

/-- An argument's type, and what it can be. -/
structure Arg (P : Program) where
  t : TypeId
  fits : AV → Prop
  ok : ∀ (H : Type) (enc : TypeId × Value → H) (W : World) (base : Nat) (v : Value) (d : DataW H) (ps : List MemPlace), Value.okWide P W .any base t v → DataW.Trod enc P W 0 (fun _ => true) true t v d ps → ∃ a, fits a ∧ RV1 ρ0 a v

def Arg.u {P : Program} (t e : TypeId) (ht : P.underlying t = some (.array 4 e)) (he : P.underlying e = some (.int .u64)) (hce : P.cellsOf e = 1) (hct : P.cellsOf t = 4) : Arg P where
  t := t
  fits := fun v => ∃ a, v = .u a
  ok := fun _ _ _ _ _ _ _ h1 h2 => let ⟨a, h⟩ := dec_u ht he hce hct h1 h2; ⟨.u a, ⟨a, rfl⟩, h⟩

def Arg.n {P : Program} (t : TypeId) (ht : P.underlying t = some (.int .u64)) : Arg P where
  t := t
  fits := fun v => ∃ n : Nat, v = .int .u64 (n : Int) ∧ n < 18446744073709551616
  ok := fun _ _ _ _ _ _ _ h1 h2 => let ⟨n, h, hn⟩ := dec_nat ht h1 h2; ⟨_, ⟨n, rfl, hn⟩, h⟩

def Arg.i {P : Program} (k : IntKind) (t : TypeId) (ht : P.underlying t = some (.int k)) : Arg P where
  t := t
  fits := fun v => ∃ n : Int, v = .int k n ∧ (Lit.int k n).wf = true
  ok := fun _ _ _ _ _ _ _ h1 h2 => let ⟨n, h, hn⟩ := dec_int ht h1 h2; ⟨_, ⟨n, rfl, hn⟩, h⟩

def Arg.s {P : Program} (t : TypeId) (ht : P.underlying t = some .string) : Arg P where
  t := t
  fits := fun v => ∃ s : ByteArray, v = .str s ∧ s.size ≤ maxLen
  ok := fun _ _ _ _ _ _ _ h1 h2 => by
    obtain ⟨s, rfl, _, _, hs⟩ := Go.ChangeMaps.open_string ht h1 h2
    exact ⟨.str s, ⟨s, rfl, hs⟩, by simp only [RV1, RC]⟩

def Arg.b {P : Program} (t : TypeId) (ht : P.underlying t = some .bool) : Arg P where
  t := t
  fits := fun v => ∃ b : Bool, v = .bool b
  ok := fun _ _ _ _ _ _ _ h1 h2 => by
    obtain ⟨b, rfl, _, _⟩ := open_bool ht h1 h2
    exact ⟨.bool b, ⟨b, rfl⟩, by simp only [RV1, RC]⟩

def Fits {P : Program} : List (Arg P) → List AV → Prop
  | [], l => l = []
  | a :: sh, l => ∃ v vs, a.fits v ∧ Fits sh vs ∧ l = v :: vs

theorem args_open {H : Type} {enc : TypeId × Value → H} {P : Program} {W : World} {base : Nat} : ∀ (sh : List (Arg P)) (vs : List Value) (ds : List (DataW H)) (ps : List MemPlace),
    (∀ (j : Nat) t v, (sh.map (·.t))[j]? = some t → vs[j]? = some v → Value.okWide P W .any base t v) → DataW.TrodAll enc P W 0 (fun _ => true) true (sh.map (·.t)) vs ds ps → ∃ avs, Fits sh avs ∧ RV1s ρ0 avs vs
  | [], vs, ds, ps, _, h => by
    obtain ⟨rfl, rfl, rfl⟩ := trodAll_nil h
    exact ⟨[], rfl, rfl⟩
  | a :: sh, vs, ds, ps, hv, h => by
    obtain ⟨v, vs', d, ds', p, p', rfl, rfl, rfl, h1, h2⟩ := trodAll_cons h
    obtain ⟨av, hf, hr⟩ := a.ok H enc W base v d p (hv 0 a.t v rfl rfl) h1
    obtain ⟨avs, hfs, hrs⟩ := args_open sh vs' ds' p' (fun j t v hj hv' => hv (j + 1) t v hj hv') h2
    exact ⟨av :: avs, ⟨av, avs, hf, hfs, rfl⟩, v, vs', hr, hrs, rfl⟩

theorem Walk.of {P : Program} {f : Nat} (X : FI P) (hf : X.f = f) (sh : List (Arg P)) (hp : ∀ avs, Fits sh avs → Pure P f avs (.bool true)) : Walk P f (sh.map (·.t)) := by
  intro H enc W base vs ds ps hv h
  obtain ⟨avs, h1, h2⟩ := args_open sh vs ds ps hv h
  exact Walk.calls X hf (hp avs h1) h2 W

/-- At the region 'r' of 'f' every guard is taken for true. -/
def decAt (f r : Nat) : Nat → Nat → St → Hint := fun f' r' _ => match Nat.beq f f' && Nat.beq r r' with
  | true => { dec := fun _ => some true }
  | false => {}
noncomputable def argU : Arg Try.prog := Arg.u 24 22 Try.underlying24 Try.underlying22 (by kernel_rfl) (by kernel_rfl)
noncomputable def argN : Arg Try.prog := Arg.n 22 Try.underlying22
def zeroU : Value := .agg #[.int .u64 0, .int .u64 0, .int .u64 0, .int .u64 0]
def Arg.nk {P : Program} (k : IntKind) (most : Nat) (hk : ∀ n : Int, (Lit.int k n).wf = true → 0 ≤ n ∧ n < (most : Int)) (t : TypeId) (ht : P.underlying t = some (.int k)) : Arg P where
  t := t
  fits := fun v => ∃ n : Nat, v = .int k (n : Int) ∧ n < most
  ok := fun _ _ _ _ _ _ _ h1 h2 => by
    obtain ⟨n, h, hn⟩ := dec_int ht h1 h2
    obtain ⟨h3, h4⟩ := hk n hn
    obtain ⟨m, rfl⟩ := Int.eq_ofNat_of_zero_le h3
    exact ⟨_, ⟨m, rfl, by omega⟩, h⟩
theorem wf_u16 (n : Int) (h : (Lit.int .u16 n).wf = true) : 0 ≤ n ∧ n < ((65536 : Nat) : Int) := by
  simp [Lit.wf, IntKind.min, IntKind.max, IntKind.signed, IntKind.bits] at h
  omega
theorem wf_u32 (n : Int) (h : (Lit.int .u32 n).wf = true) : 0 ≤ n ∧ n < ((4294967296 : Nat) : Int) := by
  simp [Lit.wf, IntKind.min, IntKind.max, IntKind.signed, IntKind.bits] at h
  omega
theorem wf_u8 (n : Int) (h : (Lit.int .u8 n).wf = true) : 0 ≤ n ∧ n < ((256 : Nat) : Int) := by
  simp [Lit.wf, IntKind.min, IntKind.max, IntKind.signed, IntKind.bits] at h
  omega
/-- The tree says yes. -/
def T.yes : T AV → Prop
  | .leaf v => match v with
    | .bool b => b = true
    | _ => False
  | .ite c t e => (c = true → yes t) ∧ (c = false → yes e)
  | .need c t => c = true ∧ yes t
  | .bad => False
theorem T.yes_ok : ∀ {t : T AV}, t.yes → t.holds fun v => SameR v (.bool true)
  | .leaf v, h => by
    cases v <;> simp only [T.yes] at h
    subst h
    exact (SameV.bool rfl).r
  | .ite c t e, h => ⟨fun hc => T.yes_ok (h.1 hc), fun hc => T.yes_ok (h.2 hc)⟩
  | .need c t, h => ⟨h.1, T.yes_ok h.2⟩
  | .bad, h => h.elim
noncomputable def argU32 : Arg Try.prog := Arg.nk .u32 4294967296 wf_u32 122 Try.underlying122
noncomputable def argStr : Arg Try.prog := Arg.s 9 Try.underlying9
end Go.Proofs.Ytglcjmnkhmdlhaa

/- Arguments of struct type: a shape, and what a value of it is. -/
namespace Go.Proofs.Ytglcjmnkhmdlhaa
open Go Go.RowKit Go.ChangeShapes Go.WideShapes Go.ChangeAt
/-- The shapes: a number of four parts, an integer, a truth, a text, a struct of these. -/
inductive Sh where
  | u
  | int (k : IntKind)
  | bool
  | str
  | row (l : List Sh)
mutual
def Sh.fit : Sh → AV → Prop
  | .u, v => ∃ a, v = .u a
  | .int k, v => ∃ n : Int, v = .int k n ∧ (Lit.int k n).wf = true
  | .bool, v => ∃ b : Bool, v = .bool b
  | .str, v => ∃ s : ByteArray, v = .str s ∧ s.size ≤ maxLen
  | .row l, v => ∃ vs, v = .agg vs ∧ Sh.fits l vs
def Sh.fits : List Sh → List AV → Prop
  | [], vs => vs = []
  | s :: l, vs => ∃ v ws, Sh.fit s v ∧ Sh.fits l ws ∧ vs = v :: ws
end
mutual
/-- Is the type of that shape? -/
def Sh.okT (P : Program) : Sh → TypeId → Bool
  | .u, t => match P.underlying t with
    | some (.array 4 e) => match P.underlying e with
      | some (.int .u64) => Nat.beq (P.cellsOf e) 1 && Nat.beq (P.cellsOf t) 4
      | _ => false
    | _ => false
  | .int k, t => match P.underlying t with
    | some (.int k') => kindEq k k' && Nat.beq (P.cellsOf t) 1
    | _ => false
  | .bool, t => match P.underlying t with
    | some .bool => Nat.beq (P.cellsOf t) 1
    | _ => false
  | .str, t => match P.underlying t with
    | some .string => Nat.beq (P.cellsOf t) 1
    | _ => false
  | .row l, t => match P.underlying t with
    | some (.struct fs) => Sh.okF P l fs.toList 0 (P.cellsOf t)
    | _ => false
def Sh.okF (P : Program) : List Sh → List Field → Nat → Nat → Bool
  | [], [], o, n => Nat.beq o n
  | s :: l, f :: fs, o, n => Nat.beq f.offset o && (Sh.okT P s f.type && Sh.okF P l fs (o + P.cellsOf f.type) n)
  | _, _, _, _ => false
end
theorem DataW.trod_str {H : Type} {enc : TypeId × Value → H} {P : Program} {W : World} {t : TypeId} {fuel : Nat} {cs : List Value} {x : DataW H × List MemPlace} (ht : P.underlying t = some .string)
    (h : DataW.trod enc P W 0 (fun _ => true) true fuel t cs = some x) : ∃ s : ByteArray, cs = [.string s] ∧ s.size ≤ maxLen := by
  obtain ⟨s, h1, _, h3⟩ := Go.DataW.trod_string ht h
  exact ⟨s, h1, h3⟩
section
variable {H : Type} {enc : TypeId × Value → H} {P : Program} {W : World}
theorem dec_u4 {t e : TypeId} {fuel : Nat} {cs : List Value} {x : DataW H × List MemPlace} (ht : P.underlying t = some (.array 4 e)) (he : P.underlying e = some (.int .u64)) (hce : P.cellsOf e = 1) (hl : cs.length = 4)
    (h : DataW.trod enc P W 0 (fun _ => true) true fuel t cs = some x) : ∃ a : BitVec 256, cs = limbs a := by
  match cs, hl, h with
  | [c0, c1, c2, c3], _, hf =>
    obtain ⟨y0, y1, y2, y3, n, _, h0, h1, h2, h3⟩ := trod_array4 ht hce hf
    obtain ⟨n0, rfl, b0⟩ := trod_u64 he h0
    obtain ⟨n1, rfl, b1⟩ := trod_u64 he h1
    obtain ⟨n2, rfl, b2⟩ := trod_u64 he h2
    obtain ⟨n3, rfl, b3⟩ := trod_u64 he h3
    refine ⟨BitVec.ofNat 256 (nat4 n0 n1 n2 n3), ?_⟩
    obtain ⟨e0, e1, e2, e3⟩ := limb_of (x := BitVec.ofNat 256 (nat4 n0 n1 n2 n3)) b0 b1 b2 b3 (by rw [BitVec.toNat_ofNat, Nat.mod_eq_of_lt (nat4_lt b0 b1 b2 b3)]; rfl)
    simp only [limbs, e0, e1, e2, e3]
mutual
theorem Sh.dec : ∀ (s : Sh) (t : TypeId) (fuel : Nat) (cs : List Value) (x : DataW H × List MemPlace), Sh.okT P s t = true → cs.length = P.cellsOf t → DataW.trod enc P W 0 (fun _ => true) true fuel t cs = some x → ∃ v, Sh.fit s v ∧ RC ρ0 v cs
  | .u, t, fuel, cs, x, hk, hl, h => by
    simp only [Sh.okT] at hk
    split at hk <;> try contradiction
    rename_i e ht
    split at hk <;> try contradiction
    rename_i he
    simp only [Bool.and_eq_true] at hk
    obtain ⟨a, rfl⟩ := dec_u4 ht he (Nat.eq_of_beq_eq_true hk.1) (hl.trans (Nat.eq_of_beq_eq_true hk.2)) h
    exact ⟨.u a, ⟨a, rfl⟩, by simp only [RC]⟩
  | .int k, t, fuel, cs, x, hk, hl, h => by
    simp only [Sh.okT] at hk
    split at hk <;> try contradiction
    rename_i k' ht
    simp only [Bool.and_eq_true] at hk
    have := kindEq_eq hk.1
    subst this
    obtain ⟨n, rfl, _, hw⟩ := DataW.trod_int ht h
    exact ⟨.int k n, ⟨n, rfl, hw⟩, by simp only [RC]⟩
  | .bool, t, fuel, cs, x, hk, hl, h => by
    simp only [Sh.okT] at hk
    split at hk <;> try contradiction
    rename_i ht
    obtain ⟨b, rfl, _⟩ := DataW.trod_bool ht h
    exact ⟨.bool b, ⟨b, rfl⟩, by simp only [RC]⟩
  | .str, t, fuel, cs, x, hk, hl, h => by
    simp only [Sh.okT] at hk
    split at hk <;> try contradiction
    rename_i ht
    obtain ⟨s, rfl, hs⟩ := DataW.trod_str ht h
    exact ⟨.str s, ⟨s, rfl, hs⟩, by simp only [RC]⟩
  | .row l, t, fuel, cs, x, hk, hl, h => by
    simp only [Sh.okT] at hk
    split at hk <;> try contradiction
    rename_i fs ht
    obtain ⟨xs, n, _, _, _, hlen, hf⟩ := DataW.trod_struct ht h
    have hall : ∀ (i : Nat) (f : Field), fs.toList[i]? = some f → ∃ y, DataW.trod enc P W 0 (fun _ => true) true n f.type ((cs.drop f.offset).take (P.cellsOf f.type)) = some y := by
      intro i f hif
      have hif' : fs[i]? = some f := by simpa using hif
      have hi : i < xs.length := by
        rw [hlen]
        rcases Nat.lt_or_ge i fs.size with h' | h'
        · exact h'
        · simp [Array.getElem?_eq_none h'] at hif'
      exact ⟨xs[i], by rw [hf i f hif', List.getElem?_eq_getElem hi]⟩
    obtain ⟨vs, h1, h2⟩ := Sh.decF l fs.toList 0 (P.cellsOf t) n cs hk hl (by omega) hall
    exact ⟨.agg vs, ⟨vs, rfl, h1⟩, by simp only [RC]; simpa using h2⟩
theorem Sh.decF : ∀ (l : List Sh) (fs : List Field) (o m n : Nat) (cs : List Value), Sh.okF P l fs o m = true → cs.length = m → o ≤ m → (∀ (i : Nat) (f : Field), fs[i]? = some f → ∃ y, DataW.trod enc P W 0 (fun _ => true) true n f.type ((cs.drop f.offset).take (P.cellsOf f.type)) = some y) →
    ∃ vs, Sh.fits l vs ∧ RCs ρ0 vs (cs.drop o)
  | [], [], o, m, n, cs, hk, hl, ho, _ => by
    simp only [Sh.okF] at hk
    have := Nat.eq_of_beq_eq_true hk
    subst this
    exact ⟨[], rfl, by simp [RCs, ← hl]⟩
  | [], _ :: _, o, m, n, cs, hk, _, _, _ => by simp [Sh.okF] at hk
  | _ :: _, [], o, m, n, cs, hk, _, _, _ => by simp [Sh.okF] at hk
  | s :: l, f :: fs, o, m, n, cs, hk, hl, ho, hall => by
    simp only [Sh.okF, Bool.and_eq_true] at hk
    obtain ⟨k1, k2, k3⟩ := hk
    have k1 := Nat.eq_of_beq_eq_true k1
    have hb : o + P.cellsOf f.type ≤ m := Sh.okF_le l fs _ m k3
    obtain ⟨y, hy⟩ := hall 0 f rfl
    rw [k1] at hy
    obtain ⟨v, v1, v2⟩ := Sh.dec s f.type n _ y k2 (by simp; omega) hy
    obtain ⟨vs, w1, w2⟩ := Sh.decF l fs (o + P.cellsOf f.type) m n cs k3 hl hb (fun i g hg => hall (i + 1) g (by simpa using hg))
    refine ⟨v :: vs, ⟨v, vs, v1, w1, rfl⟩, ?_⟩
    simp only [RCs]
    refine ⟨_, _, v2, w2, ?_⟩
    rw [← List.drop_drop, List.take_append_drop]
theorem Sh.okF_le : ∀ (l : List Sh) (fs : List Field) (o m : Nat), Sh.okF P l fs o m = true → o ≤ m
  | [], [], o, m, hk => by
    simp only [Sh.okF] at hk
    have := Nat.eq_of_beq_eq_true hk
    omega
  | [], _ :: _, o, m, hk => by simp [Sh.okF] at hk
  | _ :: _, [], o, m, hk => by simp [Sh.okF] at hk
  | s :: l, f :: fs, o, m, hk => by
    simp only [Sh.okF, Bool.and_eq_true] at hk
    have := Sh.okF_le l fs _ m hk.2.2
    omega
end
end
/-- An argument of struct type. -/
def Arg.sh {P : Program} (l : List Sh) (t : TypeId) (ht : ∃ fs, P.underlying t = some (.struct fs)) (hk : Sh.okT P (.row l) t = true) : Arg P where
  t := t
  fits := fun v => ∃ vs, v = .agg vs ∧ Sh.fits l vs
  ok := fun _ _ _ _ v _ _ h1 h2 => by
    obtain ⟨fs, ht⟩ := ht
    unfold Value.okWide at h1
    rw [ht] at h1
    simp only at h1
    obtain ⟨cs, rfl, hsz, _⟩ := h1
    obtain ⟨fuel, hf⟩ := h2
    obtain ⟨u, hu, hr⟩ := Sh.dec (.row l) t fuel cs.toList _ hk (by simpa using hsz) (by simpa [Value.cells] using hf)
    simp only [Sh.fit] at hu
    obtain ⟨vs, rfl, h3⟩ := hu
    refine ⟨.agg vs, ⟨vs, rfl, h3⟩, ?_⟩
    simp only [RC] at hr
    simp only [RV1]
    exact ⟨cs.toList, hr, rfl⟩
end Go.Proofs.Ytglcjmnkhmdlhaa

/- Points as arguments. -/
namespace Go.Proofs.Ytglcjmnkhmdlhaa
open Go Go.RowKit
theorem okP_out {x y : BitVec 256} {n : Bool} (h : okP x y n = true) : ∃ P : Pt pP, P.on ∧ x = ptX P ∧ y = ptY P ∧ n = ptN P :=
  ⟨ptOf x y n, okP_on h, (okP_x h).symm, (okP_y h).symm, (okP_n _ _ _).symm⟩
theorem ptOf_neg (P : Pt pP) : ptOf (ptX P) (uF (- (fU (ptY P)))) (ptN P) = P.neg := by rw [← ptY_neg, ← ptX_neg P, ← ptN_neg P, ptOf_pt]
theorem okP_neg {P : Pt pP} (hP : P.on) : okP (ptX P) (uF (- (fU (ptY P)))) (ptN P) = true := by
  rw [← ptY_neg, ← ptX_neg P, ← ptN_neg P]; exact okP_pt (Pt.neg_on hP)
theorem okP_zero : okP (ofLimbs (0 : Int) (0 : Int) (0 : Int) (0 : Int)) (ofLimbs (0 : Int) (0 : Int) (0 : Int) (0 : Int)) true = true := by decide +kernel
theorem ptOf_none (x y : BitVec 256) : ptOf x y true = .O := rfl
theorem ptX_O : ptX .O = ofLimbs (0 : Int) (0 : Int) (0 : Int) (0 : Int) := by decide +kernel
theorem ptY_O : ptY .O = ofLimbs (0 : Int) (0 : Int) (0 : Int) (0 : Int) := by decide +kernel
theorem ptN_O : ptN .O = true := rfl
noncomputable def argP : Arg Try.prog := Arg.sh [.u, .u, .bool] 26 ⟨_, Try.underlying26⟩ (by kernel_rfl)
noncomputable def argB : Arg Try.prog := Arg.b 4 Try.underlying4
theorem argP_out {v : AV} (h : argP.fits v) : ∃ (x y : BitVec 256) (n : Bool), v = .agg [.u x, .u y, .bool n] := by
  obtain ⟨vs, rfl, h⟩ := h
  simp only [Sh.fits, Sh.fit] at h
  obtain ⟨_, _, ⟨x, rfl⟩, ⟨_, _, ⟨y, rfl⟩, ⟨_, _, ⟨n, rfl⟩, rfl, rfl⟩, rfl⟩, rfl⟩ := h
  exact ⟨x, y, n, rfl⟩
def zeroPt : Value := .agg #[.int .u64 0, .int .u64 0, .int .u64 0, .int .u64 0, .int .u64 0, .int .u64 0, .int .u64 0, .int .u64 0, .bool false]
end Go.Proofs.Ytglcjmnkhmdlhaa

/- What is told by an X: square roots by the prime. -/
namespace Go.Proofs.Ytglcjmnkhmdlhaa
open Go Go.RowKit
section
variable {p : Nat} [NeZero p]
/-- (Said of any prime, so that nothing is computed.) -/
theorem sq_root (hp : Prim p) {e : Nat} (he : 4 * e = p + 1) {y s : Fin p} (hs : y * y = s) : Fin.ofNat p (s.val ^ e) * Fin.ofNat p (s.val ^ e) = s := by
  apply Fin.ext
  rw [Fin.val_mul]
  show (s.val ^ e % p) * (s.val ^ e % p) % p = s.val
  rw [← Nat.mul_mod, ← Nat.pow_add, show e + e = 2 * e by omega]
  have h1 : s.val = (y.val * y.val) % p := by rw [← hs, Fin.val_mul]
  have h2 : s.val ^ (2 * e) % p = (y.val * y.val) ^ (2 * e) % p := by rw [h1, ← Nat.pow_mod]
  rw [h2, ← Nat.pow_two, ← Nat.pow_mul, show 2 * (2 * e) = p + 1 by omega, Nat.pow_succ, Nat.mul_mod, fermat0 hp, ← Nat.mul_mod, h1]
theorem fin_mul_zeroP (hp : Prim p) {a b : Fin p} (h : a * b = 0) : a = 0 ∨ b = 0 := by
  by_cases ha : a = 0
  · exact .inl ha
  · right
    have h2 := finv_mul hp ha
    have : b = finv a * a * b := by rw [h2]; grind
    rw [this]
    have h3 : finv a * a * b = finv a * (a * b) := by grind
    rw [h3, h]; grind
theorem sq_same (hp : Prim p) {a b : Fin p} (h : a * a = b * b) : a = b ∨ a = -b := by
  have h1 : (a - b) * (a + b) = 0 := by
    have : (a - b) * (a + b) = a * a - b * b := by grind
    rw [this, h]; grind
  rcases fin_mul_zeroP hp h1 with h2 | h2
  · left
    have : a = a - b + b := by grind
    rw [this, h2]; grind
  · right
    have : a = a + b - b := by grind
    rw [this, h2]; grind
theorem neg_val {a : Fin p} (ha : a ≠ 0) : (-a).val = p - a.val := by
  have h0 : a.val ≠ 0 := fun h => ha (Fin.ext h)
  have hl := a.isLt
  rw [Fin.neg_def]
  exact Nat.mod_eq_of_lt (by omega)
theorem neg_odd (hodd : p % 2 = 1) {a : Fin p} (ha : a ≠ 0) : (-a).val % 2 = 1 - a.val % 2 := by
  rw [neg_val ha]
  have hl := a.isLt
  have h0 : a.val ≠ 0 := fun h => ha (Fin.ext h)
  omega
end
theorem uF_natP (a : FP) : (uF a).toNat = a.val := by
  have h : fU (uF a) = a := fU_uF a
  have := congrArg Fin.val h
  unfold uF
  rw [BitVec.toNat_ofNat]
  exact Nat.mod_eq_of_lt (Nat.lt_trans a.isLt (by decide +kernel))
theorem oddU_eq (y : BitVec 256) : oddU y = decide (y.toNat % 2 = 1) := by
  unfold oddU
  have := limb0_bit y 0
  rw [shr_zero, Nat.pow_zero, Nat.div_one] at this
  rw [this]
  by_cases h : y.toNat % 2 = 1
  · rw [h]; rfl
  · have h0 : y.toNat % 2 = 0 := by omega
    rw [h0]; rfl
theorem oddU_uF (a : FP) : oddU (uF a) = decide (a.val % 2 = 1) := by rw [oddU_eq, uF_natP]
theorem oddU_neg {a : FP} (ha : a ≠ 0) : oddU (uF (-a)) = !oddU (uF a) := by
  rw [oddU_uF, oddU_uF, neg_odd (by decide +kernel) ha]
  by_cases h : a.val % 2 = 1
  · rw [h]; rfl
  · have h0 : a.val % 2 = 0 := by omega
    rw [h0]; rfl
/-- The sign chosen by a flag. -/
def signS (Y : FP) (o : Bool) : BitVec 256 := if (oddU (uF Y) == o) = true then uF Y else uF (- Y)
theorem signS_odd {Y : FP} {o : Bool} (h : signS Y o ≠ 0) : oddU (signS Y o) = o := by
  unfold signS at h ⊢
  split at h
  · rename_i hb; rw [if_pos hb]; exact eq_of_beq hb
  · rename_i hb
    rw [if_neg hb]
    have hY : Y ≠ 0 := by
      rintro rfl
      apply h
      rw [of0]; congr 1
    rw [oddU_neg hY]
    generalize oddU (uF Y) = b at hb ⊢
    cases b <;> cases o <;> first | rfl | exact absurd rfl hb
theorem signS_back {Y y : FP} (h : Y * Y = y * y) : signS Y (oddU (uF y)) = uF y := by
  unfold signS
  rcases sq_same cuP.hp h with rfl | rfl
  · rw [if_pos (by simp)]
  · by_cases hy : y = 0
    · subst hy
      split
      · congr 1
      · congr 1
    · rw [oddU_neg hy, if_neg (by cases oddU (uF y) <;> decide)]
      congr 1
      grind
theorem liftS_sign (x : BitVec 256) (o : Bool) : liftS x o = signS (liftY x) o := rfl
theorem pwF_sq {y s : FP} {e : Nat} (he : 4 * e = pP + 1) (h : y * y = s) : pwF s e * pwF s e = s := sq_root cuP.hp he h
theorem liftY_sq {x : BitVec 256} {y : FP} (h : y * y = sideF x) : liftY x * liftY x = sideF x := by
  unfold liftY
  exact pwF_sq (by decide +kernel) h
section
variable {p : Nat} [NeZero p]
theorem neg_sq (a : Fin p) : (-a) * (-a) = a * a := by grind
end
theorem signS_sq (Y : FP) (o : Bool) : fU (signS Y o) * fU (signS Y o) = Y * Y := by
  unfold signS
  split
  · rw [fU_uF]
  · rw [fU_uF]
    exact neg_sq Y
theorem signS_lt (Y : FP) (o : Bool) : ltP (signS Y o) = true := by
  unfold signS; split <;> exact ltP_uF _
theorem liftU_true (x : BitVec 256) : liftU true x = x := rfl
theorem liftU_false (x : BitVec 256) : liftU false x = 0 := rfl
theorem cv_zero4 : ofLimbs (0 : Int) (0 : Int) (0 : Int) (0 : Int) = 0 := by decide
theorem lift_odd {a : BitVec 256} {o : Bool} (h : liftS a o ≠ 0) : oddU (liftS a o) = o := by
  rw [liftS_sign] at h ⊢
  exact signS_odd h
theorem lift_on {a : BitVec 256} (h : liftK a = true) (o : Bool) : okP a (liftS a o) false = true := by
  unfold liftK at h
  simp only [Bool.and_eq_true, beq_iff_eq] at h
  rw [liftS_sign]
  simp only [okP, Bool.and_eq_true, beq_iff_eq]
  refine ⟨h.1, signS_lt _ _, ?_⟩
  rw [signS_sq, h.2]
  rfl
theorem lift_back {x y : BitVec 256} (h : okP x y false = true) : liftK x = true ∧ liftS x (oddU y) = y := by
  simp only [okP, Bool.and_eq_true, beq_iff_eq] at h
  obtain ⟨h1, h2, h3⟩ := h
  have h3 : fU y * fU y = sideF x := h3
  have h4 := liftY_sq h3
  refine ⟨?_, ?_⟩
  · unfold liftK
    simp only [Bool.and_eq_true, beq_iff_eq]
    exact ⟨h1, h4⟩
  · rw [liftS_sign]
    have e : oddU y = oddU (uF (fU y)) := by rw [uF_fU h2]
    rw [e, signS_back (h4.trans h3.symm), uF_fU h2]
end Go.Proofs.Ytglcjmnkhmdlhaa

