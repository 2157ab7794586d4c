import Derived.Test.YtddedbajcpefiaaGreatIeFb
import Derived.Test.YtddedbajcpefiaaGreatIeFc
namespace Go.Proofs.Ie
open Go Go.RowKit Go.Ie Go.Crc
theorem entries_any (s : ByteArray) (p q : Int) (s' : ByteArray) (p' q' : Int) (l : List Nat) (n c : Nat) (A : Option Addr) (w : World) (h : BytesAt w (.slice A n c) l) (hcap : ∀ A' n' c', Value.slice A n c = .slice A' n' c' → n' ≤ c') : Calls Tryz.prog 3 #[.agg #[.string s, .int .i64 p, .int .i64 q], .agg #[.string s', .int .i64 p', .int .i64 q'], .slice A n c] w fun e w' => e = .returned (.bool true) ∧ Below w.heap.size w w' := by
  cases hm : mayB s.size p q <;> cases hk : okE l
  · exact entries_ff s p q s' p' q' l n c A w h hcap hm hk _ _ _ rfl
  · exact entries_ft s p q s' p' q' l n c A w h hcap hm hk _ _ _ rfl
  · exact entries_tf s p q s' p' q' l n c A w h hcap hm hk _ _ _ rfl
  · exact entries_tt s p q s' p' q' l n c A w h hcap hm hk _ _ _ rfl
end Go.Proofs.Ie
