import Derived.Test.Qxb6500292aD2
import Derived.Test.Qxb6500292aD3
namespace Go.Proofs.Qxb6500292a
open Go.RowKit
open Ieee (double)
set_option linter.unusedVariables false
set_option linter.unusedSimpArgs false

/-- **One step of the script on this side.** -/
theorem do_R (own : Nat → Nat) (x rb : Nat) (st : List Tbl) (k v : V) (K A B C : Int) (S T : List UInt8) (w : World) (H : RS own w x st) (hG : GoodSt st) (hR : RegAt w rb k v) (hc : own rb = 200) (hk : k.Ok) (hv : v.Ok) (iA : I64 A) (iB : I64 B) (lS : S.length ≤ 9223372036854775807) :
    Calls Try.prog 13 #[.pointer (some ⟨x, 0, none⟩), .pointer (some ⟨rb, 0, none⟩), opV K A B C S T] w fun e w' => e = .returned (ansV (doP st k v K A B S).E (doP st k v K A B S).N (doP st k v K A B S).Z) ∧ DoEndr own w x rb (doP st k v K A B S) w' := by
  by_cases h6 : K = 6
  · exact do6_r own x rb st k v K A B C S T w H hG hR hc hk hv h6
  by_cases h7 : K = 7
  · exact do7_r own x rb st k v K A B C S T w H hG hR hc hk hv h7
  by_cases h8 : K = 8
  · exact do8_r own x rb st k v K A B C S T w H hG hR hc hk hv h8
  by_cases h9 : K = 9
  · exact do9_r own x rb st k v K A B C S T w H hG hR hc hk hv h9
  by_cases h1 : K = 3 ∨ K = 4 ∨ K = 5 ∨ K = 10 ∨ K = 11 ∨ K = 12
  · exact do1_r own x rb st k v K A B C S T w H hG hR hc hk hv iA iB lS h1
  · exact do2_r own x rb st k v K A B C S T w H hG hR hc hk hv iA iB lS (by omega)
end Go.Proofs.Qxb6500292a
