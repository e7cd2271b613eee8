/- StrB -/
import Derived.Laws.EntriesVeiled
import Derived.Laws.IdiomStrings
import Derived.Test.YtbmcoamdfpegnaaMa01
namespace Go.Proofs.Ytbmcoamdfpegnaa
open Go.RowKit
def strOf (bs : List Int) : ByteArray := ⟨(bs.map fun z => UInt8.ofNat z.toNat).toArray⟩
theorem strOf_size (bs : List Int) : (strOf bs).size = bs.length := by simp [strOf, ByteArray.size]
def BytesOk (bs : List Int) : Prop := ∀ z ∈ bs, 0 ≤ z ∧ z < 256
theorem run_bytes_string (w : World) (S : Nat → Prop) (A : Option Addr) (n c : Nat) (bs : List Int) (h : Rd w S 1 A n (bs.map (Value.int .u8))) (hb : BytesOk bs) (h0 : 0 < n) :
    (convert 118 9 (.slice A n c)).run Try.prog w = .ok (.string (strOf bs)) w := by
 obtain ⟨b, off, rfl, _, hc⟩ := h.2 h0
 have hl : bs.length = n := by simpa using h.1
 have hm : (bs.map fun z => UInt8.ofNat z.toNat).length = n := by simp [hl]
 have := run_convert_bytes_back (P := Try.prog) w 118 9 5 ⟨b, off, none⟩ c (bs.map fun z => UInt8.ofNat z.toNat) Try.underlying118 Try.underlying5 Try.underlying9 fun j hj => by
  have hj' : j < bs.length := by simpa using hj
  have hz := hb _ (List.getElem_mem hj')
  have h1 := hc j (.int .u8 bs[j]) (by rw [List.getElem?_map, List.getElem?_eq_getElem hj']; rfl)
  rw [Addr.add_lit, h1]
  simp only [List.getElem_map, UInt8.toNat_ofNat']
  congr 2
  omega
 rw [hm] at this
 exact this
end Go.Proofs.Ytbmcoamdfpegnaa
