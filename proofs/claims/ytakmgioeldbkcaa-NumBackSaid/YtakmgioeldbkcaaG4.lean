/- Contracts: a number's bytes. -/
import Derived.Test.YtakmgioeldbkcaaG3
import Derived.Test.YtakmgioeldbkcaaXI
namespace Go.Proofs.Ytakmgioeldbkcaa
open Go Go.RowKit

def ubyte (a : BitVec 256) (j : Nat) : Int := IntKind.u8.wrap (ishr .u64 (limb a ((31 - j) / 8)) ((8 * ((31 - j) % 8) : Nat) : Int))
def ubytes (a : BitVec 256) : ByteArray := bytesOf ((List.range 32).map (ubyte a))

noncomputable def X6 : EnvX Try.prog := { cs := [], fis := [fi_num_Bytes, fi_truceref01_Bytes], lcs := []}
theorem num_Bytes_run (a : BitVec 256) : (callX X6 (exec X6 300) 40 [.u a] [] 0).map (fun r => (r.1, r.2.1)) = some ([], .str (ubytes a)) := by kernel_rfl
theorem ref_Bytes_run (a : BitVec 256) : (callX X6 (exec X6 300) 41 [.u a] [] 0).map (fun r => (r.1, r.2.1)) = some ([], .str (ubytes a)) := by kernel_rfl
theorem num_Bytes_ok (a : BitVec 256) : Pure Try.prog 40 [.u a] (.str (ubytes a)) := Pure.by_run mixed X6 300 _ _ (num_Bytes_run a) (by simp) (SameV.str rfl).r
theorem ref_Bytes_ok (a : BitVec 256) : Pure Try.prog 41 [.u a] (.str (ubytes a)) := Pure.by_run mixed X6 300 _ _ (ref_Bytes_run a) (by simp) (SameV.str rfl).r
noncomputable def c_num_Bytes : Ctr Try.prog := Ctr.u1 40 (fun a => .str (ubytes a)) num_Bytes_ok
noncomputable def c_ref_Bytes : Ctr Try.prog := Ctr.u1 41 (fun a => .str (ubytes a)) ref_Bytes_ok
end Go.Proofs.Ytakmgioeldbkcaa
