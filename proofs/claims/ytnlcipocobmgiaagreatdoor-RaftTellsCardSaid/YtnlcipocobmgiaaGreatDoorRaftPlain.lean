/- The plain raft node: what its methods make of it. -/
import Derived.Test.YtnlcipocobmgiaaGreatDoorRaftMem
namespace Go.Proofs.YtnlcipocobmgiaaGreatDoor
open Go.RowKit

def Rn.send (N : Rn) (m : Mg) : Rn := { N with out := N.out ++ [{ m with frm := (N.id : Int), term := (N.st.term : Int) }] }
/-- What the leader sends to a node that lacks something. -/
def Rn.lack (N : Rn) (i : Nat) : Mg := match N.st.termAt (N.nx.getD i 0 - 1) with
  | some t => ⟨3, (N.id : Int), (i : Int), (N.st.term : Int), ((N.nx.getD i 0 - 1 : Nat) : Int), (t : Int), (N.commit : Int), false, N.st.from_ (N.nx.getD i 0) 4, []⟩
  | none => ⟨5, (N.id : Int), (i : Int), (N.st.term : Int), (N.st.base : Int), (N.st.baseTerm : Int), (N.commit : Int), false, [], N.st.snap⟩
def Rn.lacks (N : Rn) (i : Nat) : Rn := { N with out := N.out ++ [N.lack i] }
/-- All nodes below k but one. -/
def others (k id : Nat) : List Nat := (List.range k).filter (fun i => i != id)
theorem others_succ (k id : Nat) : others (k + 1) id = if k = id then others k id else others k id ++ [k] := by
  unfold others
  rw [List.range_succ, List.filter_append]
  split
  · rename_i h; simp [h]
  · rename_i h; simp [h]
def Rn.told (N : Rn) (k : Nat) : Rn := { N with out := N.out ++ (others k N.id).map N.lack }
def Rn.sendAll (N : Rn) : Rn := N.told N.n
theorem Rn.lack_out (N : Rn) (o : List Mg) (i : Nat) : ({ N with out := o } : Rn).lack i = N.lack i := rfl
/-- How many have an entry. -/
def cnt (l : List Nat) (k : Nat) : Nat := (l.filter (fun x => k ≤ x)).length
def Rn.adv (N : Rn) : List En → Nat
  | [] => N.commit
  | x :: l => if x.term ≠ N.st.term ∨ x.index ≤ N.commit then N.commit else if N.n < 2 * cnt N.mt x.index then x.index else N.adv l
def Rn.advance (N : Rn) : Rn := { N with commit := N.adv N.st.log.reverse }
/-- The entry that the leader appends. -/
def Rn.newEn (N : Rn) (cmd : List UInt8) : En := ⟨N.st.last.1 + 1, N.st.term, cmd⟩
def Rn.put1 (N : Rn) (cmd : List UInt8) : Rn := { N with st := { N.st with log := N.st.log ++ [N.newEn cmd] }, mt := N.mt.set N.id (N.newEn cmd).index }
def Rn.appended (N : Rn) (cmd : List UInt8) : Rn := (N.put1 cmd).sendAll.advance
def Rn.follow (N : Rn) (l : Int) : Rn := { N with role := 0, leader := l, votes := [], mt := [], nx := [] }
def Rn.keepTerm (N : Rn) (t v : Nat) : Rn := { N with st := { N.st with term := t, vote := v } }
def trues (l : List Bool) : Nat := (l.filter id).length
def Rn.lead (N : Rn) : Rn := { N with role := 2, leader := (N.id : Int), votes := [], mt := List.replicate N.n 0, nx := List.replicate N.n (N.st.last.1 + 1) }
def Rn.won (N : Rn) : Rn := N.lead.appended []
/-- What a candidate asks. -/
def Rn.ask (N : Rn) (i : Nat) : Mg := ⟨1, (N.id : Int), (i : Int), (N.st.term : Int), (N.st.last.1 : Int), (N.st.last.2 : Int), 0, false, [], []⟩
def Rn.stands (N : Rn) : Rn := { (N.keepTerm (N.st.term + 1) (N.id + 1)).follow (-1) with role := 1, timer := 0, votes := (List.replicate N.n false).set N.id true }
def Rn.asked (N : Rn) (k : Nat) : Rn := { N with out := N.out ++ (others k N.id).map N.ask }
/-- What is asked of a node's numbers, so that no sum is too great. -/
structure Rn.Sm (N : Rn) : Prop where
  n : N.n ≤ 5
  id : N.id < N.n
  term : N.st.term ≤ 2199023255552
  base : N.st.base ≤ 2199023255552
  baseTerm : N.st.baseTerm ≤ 2199023255552
  snap : N.st.snap.length ≤ 1000000
  log : N.st.log.length ≤ 1000000
  ents : ∀ e ∈ N.st.log, e.index ≤ 2199023255552 ∧ e.term ≤ 2199023255552 ∧ e.cmd.length ≤ 100000
  commit : N.commit ≤ 2199023255552
  applied : N.applied ≤ 2199023255552
  timer : N.timer ≤ 1000000
  out : N.out.length ≤ 1000000
  mt : N.mt.length = N.n ∨ N.mt = []
  nx : N.nx.length = N.n ∨ N.nx = []
  votes : N.votes.length = N.n ∨ N.votes = []
  nxs : ∀ x ∈ N.nx, 1 ≤ x ∧ x ≤ 2199023255553
  mts : ∀ x ∈ N.mt, x ≤ 2199023255552

theorem Ts.last_le {s : Ts} {K : Nat} (hb : s.base ≤ K) (he : ∀ e ∈ s.log, e.index ≤ K) : s.last.1 ≤ K := by
  unfold Ts.last
  split
  · rename_i e h
    exact he e (List.mem_of_getLast? h)
  · exact hb
theorem Ts.last_term_le {s : Ts} {K : Nat} (hb : s.baseTerm ≤ K) (he : ∀ e ∈ s.log, e.term ≤ K) : s.last.2 ≤ K := by
  unfold Ts.last
  split
  · rename_i e h
    exact he e (List.mem_of_getLast? h)
  · exact hb

end Go.Proofs.YtnlcipocobmgiaaGreatDoor
