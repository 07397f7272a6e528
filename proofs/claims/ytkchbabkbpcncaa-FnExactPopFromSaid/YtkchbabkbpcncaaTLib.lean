/- Plain words and laws about numbers and lists, with no program in sight. -/
import Derived.Test.YtkchbabkbpcncaaVmY
set_option linter.unusedSimpArgs false
set_option linter.unusedVariables false
namespace Go.VM
theorem Zca {x:Int} (h1:-9223372036854775808 ≤ x) (h2:x < 9223372036854775808):IntKind.i64.wrap x = x:=by
 simp [IntKind.wrap,IntKind.bits,IntKind.signed]; omega
theorem Zwl {x:Int} (h1:0 ≤ x) (h2:x < 18446744073709551616):IntKind.u64.wrap x = x:=by
 simp [IntKind.wrap,IntKind.bits,IntKind.signed]; omega
theorem ZtS (x:Int):∃ n:Nat,n < 18446744073709551616 ∧ IntKind.u64.wrap x = (n:Int):=by
 refine ⟨(x % 18446744073709551616).toNat,by omega,?_⟩
 simp [IntKind.wrap,IntKind.bits,IntKind.signed]; omega
theorem ZwE {x:Int} (h1:0 ≤ x) (h2:x < 256):IntKind.u8.wrap x = x:=by
 simp [IntKind.wrap,IntKind.bits,IntKind.signed]; omega
theorem Zr4 (x:Int):-9223372036854775808 ≤ IntKind.i64.wrap x ∧ IntKind.i64.wrap x < 9223372036854775808:=by
 simp only [IntKind.wrap,IntKind.bits,IntKind.signed]
 simp
 split <;> omega
theorem ZkG {n:Nat}:BitVec.ofInt 64 (n:Int) = BitVec.ofNat 64 n:=by
 apply BitVec.eq_of_toInt_eq; simp [BitVec.toInt_ofInt,BitVec.toInt_ofNat]
def Zxi (a b:Int):Int:=IntKind.i64.wrap (BitVec.ofInt IntKind.i64.bits a &&& BitVec.ofInt IntKind.i64.bits b).toNat
def bor (a b:Int):Int:=IntKind.i64.wrap (BitVec.ofInt IntKind.i64.bits a ||| BitVec.ofInt IntKind.i64.bits b).toNat
def Zxn (a b:Int):Int:=IntKind.i64.wrap (BitVec.ofInt IntKind.i64.bits a &&& ~~~(BitVec.ofInt IntKind.i64.bits b)).toNat
theorem Zwr {a b:Nat} (ha:a < 9223372036854775808):Zxi a b = ((a &&& b % 18446744073709551616:Nat):Int):=by
 have h:(a &&& b % 18446744073709551616) ≤ a:=Nat.and_le_left
 have e1:(BitVec.ofInt 64 (a:Int) &&& BitVec.ofInt 64 (b:Int)).toNat = (a &&& b % 18446744073709551616):=by
  rw [ZkG,ZkG,BitVec.toNat_and,BitVec.toNat_ofNat,BitVec.toNat_ofNat,Nat.mod_eq_of_lt (by omega:a < 2 ^ 64)]
 unfold Zxi
 show IntKind.i64.wrap ((BitVec.ofInt 64 (a:Int) &&& BitVec.ofInt 64 (b:Int)).toNat:Int) = _
 rw [e1,Zca (by omega) (by omega)]
end Go.VM
