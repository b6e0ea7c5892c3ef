/- The memory of a symbolic run. -/
import Derived.Test.YtakmgioeldbkcaaX1
import Derived.Laws.CopyRow
import Derived.Laws.Cells
namespace Go.Proofs.Ytakmgioeldbkcaa
open Go Go.RowKit

structure Blk where
  t : Nat
  v : AV
  own : Bool

abbrev Heap := List (Option Blk)

def hget : Heap → Nat → Option Blk
  | [], _ => none
  | b :: _, 0 => b
  | _ :: H, k + 1 => hget H k

def hset : Heap → Nat → Blk → Heap
  | [], 0, b => [some b]
  | [], k + 1, b => none :: hset [] k b
  | _ :: H, 0, b => some b :: H
  | x :: H, k + 1, b => x :: hset H k b
termination_by structural _ k => k

theorem hget_nil (k : Nat) : hget [] k = none := by cases k <;> rfl

theorem hget_hset : ∀ (H : Heap) (k j : Nat) (b : Blk), hget (hset H k b) j = if j = k then some b else hget H j
  | [], 0, j, b => by cases j <;> simp [hset, hget]
  | [], k + 1, j, b => by
    cases j with
    | zero => simp [hset, hget]
    | succ j => simp only [hset, hget]; rw [hget_hset [] k j b]; simp [hget_nil]
  | x :: H, 0, j, b => by cases j <;> simp [hset, hget]
  | x :: H, k + 1, j, b => by
    cases j with
    | zero => simp [hset, hget]
    | succ j => simp only [hset, hget]; rw [hget_hset H k j b]; simp
termination_by structural _ k => k

theorem hset_comm : ∀ (H : Heap) (k j : Nat) (b c : Blk), k ≠ j → hset (hset H k b) j c = hset (hset H j c) k b
  | [], 0, 0, _, _, h => absurd rfl h
  | [], 0, j + 1, b, c, _ => by simp [hset]
  | [], k + 1, 0, b, c, _ => by simp [hset]
  | [], k + 1, j + 1, b, c, h => by simp only [hset]; rw [hset_comm [] k j b c (by omega)]
  | x :: H, 0, 0, _, _, h => absurd rfl h
  | x :: H, 0, j + 1, b, c, _ => by simp [hset]
  | x :: H, k + 1, 0, b, c, _ => by simp [hset]
  | x :: H, k + 1, j + 1, b, c, h => by simp only [hset]; rw [hset_comm H k j b c (by omega)]
termination_by structural _ k => k

/-- The memory 'H' lies in the world 'w', the block 'k' at 'ρ k'; of the world 'W' nothing below 'B' has turned. -/
structure Rep (ρ : Env) (H : Heap) (B : Nat) (W w : World) : Prop where
  below : Below B W w
  bnd : B ≤ W.heap.size
  blk : ∀ k x, hget H k = some x → ∃ b cs mk, ρ k = some b ∧ w.heap[b]? = some (.cells cs.toArray x.t mk) ∧ RC ρ x.v cs ∧ (x.own = true → B ≤ b ∧ mk = (0, 0))
  inj : ∀ k k' b, ρ k = some b → ρ k' = some b → k = k'
  dom : ∀ k, hget H k = none → ρ k = none

theorem Rep.drew {ρ : Env} {H : Heap} {B : Nat} {W w : World} (h : Rep ρ H B W w) : Rep ρ H B W w.drew :=
  ⟨h.below.drew, h.bnd, h.blk, h.inj, h.dom⟩

theorem Rep.start (w : World) : Rep (fun _ => none) [] w.heap.size w w :=
  ⟨Below.refl _ _, Nat.le_refl _, fun k x h => by simp [hget_nil] at h, fun k k' b h => by simp at h, fun _ _ => rfl⟩

def upd (ρ : Env) (k b : Nat) : Env := fun j => if j = k then some b else ρ j

theorem heap_lt {w : World} {b : Nat} {o : Obj} (h : w.heap[b]? = some o) : b < w.heap.size := by
  rcases Nat.lt_or_ge b w.heap.size with h' | h'
  · exact h'
  · simp [Array.getElem?_eq_none h'] at h

theorem Rep.lt {ρ : Env} {H : Heap} {B : Nat} {W w : World} (h : Rep ρ H B W w) {k b : Nat} (hk : ρ k = some b) : b < w.heap.size := by
  cases hg : hget H k with
  | none => rw [h.dom k hg] at hk; simp at hk
  | some x =>
    obtain ⟨b', cs, mk, hb, hh, _⟩ := h.blk k x hg
    rw [hk] at hb; simp at hb; subst hb
    exact heap_lt hh

theorem Rep.alloc {ρ : Env} {H : Heap} {B : Nat} {W w : World} (h : Rep ρ H B W w) {k : Nat} {T : Nat} {v : AV} {cs : List Value} (hk : hget H k = none) (hv : RC ρ v cs) :
    Env.le ρ (upd ρ k w.heap.size) ∧ Rep (upd ρ k w.heap.size) (hset H k ⟨T, v, true⟩) B W (w.alloc (.cells cs.toArray T)) := by
  have hle : Env.le ρ (upd ρ k w.heap.size) := by
    intro j b hj
    have : j ≠ k := fun e => by subst e; rw [h.dom j hk] at hj; simp at hj
    simp [upd, this, hj]
  refine ⟨hle, h.below.alloc (Nat.le_trans h.bnd h.below.size) _, h.bnd, ?_, ?_, ?_⟩
  · intro j x hj
    rw [hget_hset] at hj
    split at hj
    · rename_i e; subst e
      simp at hj; subst hj
      exact ⟨w.heap.size, cs, (0, 0), by simp [upd], heap_alloc_new w _, hv.mono hle, fun _ => ⟨Nat.le_trans h.bnd h.below.size, rfl⟩⟩
    · rename_i e
      obtain ⟨b, cs', mk, hb, hh, hr, ho⟩ := h.blk j x hj
      exact ⟨b, cs', mk, hle j b hb, by rw [Below.heap_alloc _ _ _ (heap_lt hh)]; exact hh, hr.mono hle, ho⟩
  · intro j j' b hj hj'
    unfold upd at hj hj'
    split at hj <;> split at hj' <;> rename_i e1 e2
    · rw [e1, e2]
    · simp at hj; subst hj; exact absurd (h.lt hj') (by simp)
    · simp at hj'; subst hj'; exact absurd (h.lt hj) (by simp)
    · exact h.inj j j' b hj hj'
  · intro j hj
    rw [hget_hset] at hj
    split at hj
    · simp at hj
    · rename_i e; simp [upd, e, h.dom j hj]

/-- A block's cells are turned. -/
theorem Rep.setRow {ρ : Env} {H : Heap} {B : Nat} {W w : World} (h : Rep ρ H B W w) {k b : Nat} {x : Blk} {v : AV} {cs : List Value} (hk : hget H k = some x) (hb : ρ k = some b) (hown : x.own = true) (hv : RC ρ v cs) :
    Rep ρ (hset H k { x with v := v }) B W (w.setRow b cs.toArray) := by
  obtain ⟨b', cs0, mk, hb', hh, _, ho⟩ := h.blk k x hk
  rw [hb] at hb'; simp at hb'; subst hb'
  obtain ⟨hB, rfl⟩ := ho hown
  have hother : ∀ j, j ≠ b → (w.setRow b cs.toArray).heap[j]? = w.heap[j]? := by
    intro j hj
    simp only [World.setRow, Array.getElem?_modify]
    rw [if_neg (fun e => hj e.symm)]
  refine ⟨h.below.trans ⟨rfl, rfl, rfl, by simp, fun j hj => hother j (by omega)⟩, h.bnd, ?_, h.inj, ?_⟩
  · intro j y hj
    rw [hget_hset] at hj
    split at hj
    · rename_i e; subst e
      simp at hj; subst hj
      exact ⟨b, cs, (0, 0), hb, setRow_heap w b cs0.toArray cs.toArray x.t (0, 0) hh, hv, fun _ => ⟨hB, rfl⟩⟩
    · rename_i e
      obtain ⟨b2, cs2, mk2, hb2, hh2, hr2, ho2⟩ := h.blk j y hj
      refine ⟨b2, cs2, mk2, hb2, ?_, hr2, ho2⟩
      rw [hother b2 (fun e2 => e (h.inj j k b (e2 ▸ hb2) hb))]
      exact hh2
  · intro j hj
    rw [hget_hset] at hj
    split at hj
    · simp at hj
    · exact h.dom j hj

/-- A call that writes nothing of what was there. -/
theorem Rep.later {ρ : Env} {H : Heap} {B : Nat} {W w w' : World} (h : Rep ρ H B W w) (hb : Below w.heap.size w w') : Rep ρ H B W w' := by
  refine ⟨h.below.trans (hb.mono (Nat.le_trans h.bnd h.below.size)), h.bnd, ?_, h.inj, h.dom⟩
  intro k x hk
  obtain ⟨b, cs, mk, h1, h2, h3, h4⟩ := h.blk k x hk
  exact ⟨b, cs, mk, h1, by rw [hb.block b (heap_lt h2)]; exact h2, h3, h4⟩

section
variable {P : Program}

theorem cell_at {w : World} {b o : Nat} {cs : Array Value} {T : Nat} {mk : Nat × Nat} (h : w.heap[b]? = some (.cells cs T mk)) : w.cell? ⟨b, o, none⟩ = cs[o]? := by
  simp [World.cell?, h]

theorem run_load_part {w : World} {b : Nat} {c1 c2 c3 : List Value} {T : Nat} {mk : Nat × Nat} {p : Path} (h : w.heap[b]? = some (.cells (c1 ++ c2 ++ c3).toArray T mk)) (ho : c1.length = off p) :
    (loadCells ⟨b, off p, none⟩ c2.length).run P w = .ok c2.toArray w := by
  apply run_loadCells_list
  intro j v hj
  have : (⟨b, off p, none⟩ : Addr).add j = ⟨b, off p + j, none⟩ := by unfold Addr.add; split <;> simp_all
  rw [this, cell_at h, ← ho]
  have hjl : j < c2.length := by
    rcases Nat.lt_or_ge j c2.length with h' | h'
    · exact h'
    · simp [List.getElem?_eq_none h'] at hj
  simp only [List.getElem?_toArray]
  rw [List.append_assoc, List.getElem?_append_right (by omega), List.getElem?_append_left (by omega)]
  rw [← hj]
  congr 1
  omega

theorem run_load_one {w : World} {b : Nat} {c1 c3 : List Value} {x : Value} {T : Nat} {mk : Nat × Nat} {p : Path} (h : w.heap[b]? = some (.cells (c1 ++ [x] ++ c3).toArray T mk)) (ho : c1.length = off p) :
    (load ⟨b, off p, none⟩).run P w = .ok x w := by
  rw [run_load, cell_at h, ← ho]
  simp

mutual
/-- What is laid in cells can be stored cell by cell. -/
theorem RC.each {ρ : Env} : ∀ (v : AV) (cs : List Value), RC ρ v cs → ∀ c ∈ cs, c.oneCell' = true
  | .agg l, cs, hr => by simp only [RC] at hr; exact RCs.each l cs hr
  | .u y, cs, hr => by simp only [RC] at hr; subst hr; simp [limbs, Value.oneCell']
  | .ints k n l, cs, hr => by simp only [RC] at hr; obtain ⟨_, rfl⟩ := hr; intro c hc; simp at hc; obtain ⟨a, _, rfl⟩ := hc; rfl
  | .bool b, cs, hr => by simp only [RC] at hr; subst hr; simp [Value.oneCell']
  | .int k n, cs, hr => by simp only [RC] at hr; subst hr; simp [Value.oneCell']
  | .str s, cs, hr => by simp only [RC] at hr; subst hr; simp [Value.oneCell']
  | .ptr k p, cs, hr => by simp only [RC] at hr; obtain ⟨b, hb, rfl⟩ := hr; simp [Value.oneCell']
  | .nilp, cs, hr => by simp only [RC] at hr; subst hr; simp [Value.oneCell']
  | .sl k p len cap, cs, hr => by simp only [RC] at hr; obtain ⟨b, hb, rfl⟩ := hr; simp [Value.oneCell']
  | .nilsl, cs, hr => by simp only [RC] at hr; subst hr; simp [Value.oneCell']
  | .fn f cap, cs, hr => by simp only [RC] at hr; obtain ⟨xs, hx, rfl⟩ := hr; simp [Value.oneCell']
  | .nilfn, cs, hr => by simp only [RC] at hr; subst hr; simp [Value.oneCell']
  | .raw v, cs, hr => by simp only [RC] at hr; obtain ⟨h, rfl⟩ := hr; simpa using h
  | .any, cs, hr => by simp only [RC] at hr; obtain ⟨x, h, rfl⟩ := hr; simpa using h
  | .undef, cs, hr => by simp only [RC] at hr
  | .tup l, cs, hr => by simp only [RC] at hr
theorem RCs.each {ρ : Env} : ∀ (l : List AV) (cs : List Value), RCs ρ l cs → ∀ c ∈ cs, c.oneCell' = true
  | [], cs, hr => by simp only [RCs] at hr; subst hr; simp
  | v :: l, cs, hr => by
    simp only [RCs] at hr
    obtain ⟨c1, c2, h1, h2, rfl⟩ := hr
    intro c hc
    rcases List.mem_append.1 hc with h | h
    · exact RC.each v c1 h1 c h
    · exact RCs.each l c2 h2 c h
end

theorem run_store_part {w : World} {b : Nat} {c1 c2 c3 cc : List Value} {T : Nat} {p : Path} (h : w.heap[b]? = some (.cells (c1 ++ c2 ++ c3).toArray T (0, 0))) (ho : c1.length = off p)
    (hl : c2.length = cc.length) (h1 : ∀ v ∈ cc, v.oneCell' = true) :
    (storeCells ⟨b, off p, none⟩ cc).run P w = .ok () (w.setRow b (c1 ++ cc ++ c3).toArray) := by
  rw [run_storeCells_at P b (off p) T cc 0 _ w h (by simp; omega) h1]
  congr 3
  simp only [Nat.add_zero, ← ho, ← hl]
  have e1 : List.take c1.length (c1 ++ c2 ++ c3) = c1 := by rw [List.append_assoc]; exact List.take_left' rfl
  have e2 : List.drop (c1.length + c2.length) (c1 ++ c2 ++ c3) = c3 := by rw [← List.length_append]; exact List.drop_left' rfl
  rw [e1, e2]

/-! ### Types -/
def isAggT (P : Program) (T : Nat) : Bool :=
  match P.underlying T with
  | some (.struct _) | some (.array _ _) => true
  | _ => false

theorem run_underlying' {P : Program} {T : Nat} {d : TypeDesc} (h : P.underlying T = some d) (w : World) : (underlying T).run P w = .ok d w := by
  simp [underlying, h]

theorem info_of_underlying {P : Program} {T : Nat} {d : TypeDesc} (h : P.underlying T = some d) : ∃ i, P.info? T = some i := by
  unfold Program.underlying at h
  split at h
  · exact ⟨_, by assumption⟩
  · exact ⟨_, by assumption⟩
  · simp at h

theorem run_sizeOf' {P : Program} {T : Nat} {d : TypeDesc} (h : P.underlying T = some d) (w : World) : (sizeOf T).run P w = .ok (P.cellsOf T) w := by
  obtain ⟨i, hi⟩ := info_of_underlying h
  simp [sizeOf, typeInfo, hi, Program.cellsOf]

theorem run_isAgg' {P : Program} {T : Nat} {d : TypeDesc} (h : P.underlying T = some d) (w : World) : (isAgg T).run P w = .ok (isAggT P T) w := by
  unfold isAgg isAggT
  simp only [Sem.run_bind, run_underlying' h, Result.andThen_ok, h]
  cases d <;> rfl

end
end Go.Proofs.Ytakmgioeldbkcaa
