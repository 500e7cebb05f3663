/- What is written, as bytes that can be read; 'few' at a known answer. -/
import Derived.Test.YtelanbiedfldgaaSums
import Derived.Test.YtelanbiedfldgaaPlainD
namespace Go.Proofs.Ytelanbiedfldgaa
open Go.RowKit

theorem few_on (A1 A2 : Option Addr) (n1 c1 n2 c2 : Nat) (s : ByteArray) (r : Bool) (w : World) (h : (decide (n1 ≤ 300) && (decide (s.size ≤ 300) && decide (n2 ≤ 300))) = r) :
    Calls Try.prog 10 #[.slice A1 n1 c1, .string s, .slice A2 n2 c2] w (SamePost w r) := by
  subst h; exact few_any A1 A2 n1 c1 n2 c2 s w
/-- Bytes that the call made. -/
def MadePost (w : World) (n : Nat) (L : List Nat) (e : Ending) (w' : World) : Prop :=
  ∃ g, e = .returned (.slice (some ⟨g, 0, none⟩) n n) ∧ Byts w' w'.heap.size (some ⟨g, 0, none⟩) L ∧ Below w.heap.size w w'
theorem JoinPost.made {w w' : World} {L : List Nat} {e : Ending} {n : Nat} (h : JoinPost w L e w') (hn : L.length = n) : MadePost w n L e w' := by
  obtain ⟨g, he, ho, hb⟩ := h
  subst hn
  exact ⟨g, he, ho.byts, hb⟩
theorem putInt_made (n : Int) (L : List Nat) (m : Nat) (h1 : -9223372036854775808 ≤ n) (h2 : n ≤ 9223372036854775807) (w : World) (hL : Cd.enc (Cd.num n) = L) (hm : L.length = m) :
    Calls Try.prog 13 #[.slice none 0 0, .int .i64 n] w (MadePost w m L) :=
  (putInt_at none 0 0 [] n L h1 h2 w (Byts.nil _ _ _) rfl (by decide) hL).mono fun _ _ h => h.made hm
theorem putText_made (t : ByteArray) (L : List Nat) (m : Nat) (w : World) (hl : t.size ≤ 800000) (hL : Cd.enc (Cd.num t.size) ++ sb t = L) (hm : L.length = m) :
    Calls Try.prog 15 #[.slice none 0 0, .string t] w (MadePost w m L) := by
  subst hL
  exact (putText_any none 0 [] t w (Byts.nil _ _ _) (by simp; omega)).mono fun _ _ h => h.made hm
theorem putInts_made (A1 : Option Addr) (c1 k : Nat) (l : List Int) (L : List Nat) (m : Nat) (w : World) (hi : Ints w w.heap.size A1 l) (h64 : I64 l) (hk : l.length = k) (hl : k ≤ 1000) (hL : Cd.enc (Cd.num l.length) ++ Cd.encs l = L) (hm : L.length = m) :
    Calls Try.prog 17 #[.slice none 0 0, .slice A1 k c1] w (MadePost w m L) :=
  (putInts_at none 0 0 [] A1 c1 k l L w (Byts.nil _ _ _) hi h64 rfl hk (by decide) hl hL).mono fun _ _ h => h.made hm
theorem encs_longer : ∀ l : List Int, l.length ≤ (Cd.encs l).length
  | [] => Nat.zero_le _
  | x :: l => by
    have h1 := encs_longer l
    have h2 := enc_pos (Cd.num x)
    rw [Cd.encs_cons, List.length_append, List.length_cons]
    omega
theorem cencs_len (l : List Int) : (Cd.encs l).length ≤ 10 * l.length := encs_len l
end Go.Proofs.Ytelanbiedfldgaa
