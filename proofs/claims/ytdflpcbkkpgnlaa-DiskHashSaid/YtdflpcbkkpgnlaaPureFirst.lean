/- What journal.first computes, on plain bytes. -/
import Derived.Test.YtdflpcbkkpgnlaaPureFrame
import Derived.Test.YtdflpcbkkpgnlaaPureRead
namespace Go.Pure

def firstC (b : List UInt8) (num : Int) : Option (List UInt8) :=
  if b.length < (uintR (b.take 10) 0).1 then none
  else
    let x := rawR (b.take ((uintR (b.take 10) 0).1 + 20)) 0
    let y := intR x.1 0
    let z := rawR y.2.1 y.2.2
    if endR z.2.1 z.2.2 ≠ 0 ∨ y.1 ≠ num ∨ (uintR x.2.1 x.2.2).1 ≠ sumP x.1 then none
    else if b.take (frameP num z.1).length = frameP num z.1 then some z.1 else none

theorem firstC_big {b : List UInt8} {num : Int} {len : Nat} (h1 : (uintR (b.take 10) 0).1 = len) (h2 : b.length < len) : firstC b num = none := by
  unfold firstC; rw [h1, if_pos h2]
theorem firstC_val {b bytes r1 c1 rcd c2 : List UInt8} {num e1 at_ x1 x2 : Int} {len sum : Nat} (h1 : (uintR (b.take 10) 0).1 = len) (h2 : ¬ b.length < len) (h3 : rawR (b.take (len + 20)) 0 = (bytes, r1, e1))
    (h4 : (uintR r1 e1).1 = sum) (h5 : intR bytes 0 = (at_, c1, x1)) (h6 : rawR c1 x1 = (rcd, c2, x2)) :
    firstC b num = if endR c2 x2 ≠ 0 ∨ at_ ≠ num ∨ sum ≠ sumP bytes then none else if b.take (frameP num rcd).length = frameP num rcd then some rcd else none := by
  unfold firstC
  rw [h1, if_neg h2]
  simp only [h3, h4, h5, h6]
/-- What the reference's first computes. -/
def firstRf (b : List UInt8) (num : Int) : Option (List UInt8) :=
  let x := rawR b 0
  let y := intR x.1 0
  let z := rawR y.2.1 y.2.2
  if x.2.2 ≠ 0 ∨ z.2.2 ≠ 0 then none
  else if b.take (frameP num z.1).length = frameP num z.1 then some z.1 else none
theorem firstRf_val {b bytes r1 c1 rcd c2 : List UInt8} {num e1 at_ x1 x2 : Int} (h3 : rawR b 0 = (bytes, r1, e1)) (h5 : intR bytes 0 = (at_, c1, x1)) (h6 : rawR c1 x1 = (rcd, c2, x2)) :
    firstRf b num = if e1 ≠ 0 ∨ x2 ≠ 0 then none else if b.take (frameP num rcd).length = frameP num rcd then some rcd else none := by
  unfold firstRf
  simp only [h3, h5, h6]
end Go.Pure
