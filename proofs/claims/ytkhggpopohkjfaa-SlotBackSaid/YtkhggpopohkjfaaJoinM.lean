/- Joining slots to records, as plain data. -/
import Derived.Test.YtkhggpopohkjfaaCheck
namespace Go.Proofs.Ytkhggpopohkjfaa

/-- What Join has so far: the records, the next Seq, the open record's data, its first slot (-1: none is open). -/
structure JoinS where
  out : List RecV
  next : Int
  data : ByteArray
  opn : Int

/-- One slot is taken. -/
def JoinS.take (st : JoinS) (s : SlotV) : JoinS :=
  let o := if s.first then s.seq else st.opn
  let d := (if s.first then ByteArray.empty else st.data) ++ s.data
  if s.last then ⟨st.out ++ [⟨o, s.seq + 1, d⟩], s.seq + 1, d, -1⟩ else ⟨st.out, st.next, d, o⟩

/-- May a slot not be taken? -/
def joinStop (prev : Option SlotV) (st : JoinS) (s : SlotV) : Bool :=
  !okSlot s || (match prev with | none => false | some p => !folSlot p s) || (s.first != decide (st.opn < 0))

def joinGo : Option SlotV → JoinS → List SlotV → JoinS
  | _, st, [] => st
  | prev, st, s :: l => if joinStop prev st s then st else joinGo (some s) (st.take s) l

def joinF : List SlotV → List RecV × Int
  | [] => ([], 0)
  | s :: l => ((joinGo none ⟨[], s.seq, ByteArray.empty, -1⟩ (s :: l)).out, (joinGo none ⟨[], s.seq, ByteArray.empty, -1⟩ (s :: l)).next)
end Go.Proofs.Ytkhggpopohkjfaa
