/- Plain: Compact over a disk that doesn't fail; which files it leaves alone. -/
import Derived.Test.YtkplffkchanipaaGreatDoorStoresD
import Derived.Test.YtkplffkchanipaaGreatDoorChLaws
namespace Go.Proofs.YtkplffkchanipaaGreatDoor
open Go.RowKit
variable {C C' : Ck} {D D' : Dk} {X : List (Nat × List UInt8)}

/-- A disk that is there, and will not fail. -/
structure Dk.Quiet (D : Dk) : Prop where
  lost : D.lost = false
  armed : D.armed = 0
theorem Dk.Quiet.tries (h : D.Quiet) : D.tries = (D, 0) := by
  unfold Dk.tries
  rw [h.lost, h.armed]
  simp
theorem Dk.Quiet.put (h : D.Quiet) (n : List UInt8) (f : Fil) : (D.put n f).1.Quiet := by
  unfold Dk.put
  split
  · exact h
  · exact ⟨h.lost, h.armed⟩
theorem Dk.put_err (D : Dk) (n : List UInt8) (f : Fil) : (D.put n f).2 = 0 ∨ (D.put n f).2 = 7 := by
  unfold Dk.put
  split
  · exact .inr rfl
  · exact .inl rfl
theorem Dk.Quiet.write (h : D.Quiet) {n : List UInt8} (hn : n ≠ []) (x : List UInt8) : (D.write n x).1.Quiet ∧ (D.write n x).2 ≠ 8 := by
  unfold Dk.write Dk.change
  rw [h.tries]
  simp only [ne_eq, not_true_eq_false, if_false, hn]
  refine ⟨h.put _ _, ?_⟩
  rcases Dk.put_err D n ⟨⟨true, x⟩, (lookF n D.files).sure⟩ with e | e <;> rw [e] <;> decide
theorem Dk.Quiet.sync (h : D.Quiet) (n : List UInt8) : (D.sync n).1.Quiet ∧ (D.sync n).2 = 0 := by
  unfold Dk.sync
  rw [h.tries]
  simp only [ne_eq, not_true_eq_false, if_false]
  exact ⟨h.put _ _, by first | trivial | rfl⟩
theorem Dk.Quiet.removeL : ∀ (ns : List (List UInt8)) {D : Dk}, D.Quiet → (Dk.removeL ns D).Quiet
  | [], _, h => h
  | _ :: ns, _, h => Dk.Quiet.removeL ns (h.put _ _)
theorem Dk.Quiet.syncL : ∀ (ns : List (List UInt8)) {D : Dk}, D.Quiet → (Dk.syncL ns D).Quiet
  | [], _, h => h
  | _ :: ns, _, h => Dk.Quiet.syncL ns (h.put _ _)
theorem Dk.Quiet.remove (h : D.Quiet) (ns : List (List UInt8)) : (D.remove ns).1.Quiet ∧ (D.remove ns).2 = 0 := by
  unfold Dk.remove
  rw [h.tries]
  exact ⟨Dk.Quiet.removeL ns h, rfl⟩
theorem Dk.Quiet.syncs (h : D.Quiet) (ns : List (List UInt8)) : (D.syncs ns).1.Quiet ∧ (D.syncs ns).2 = 0 := by
  unfold Dk.syncs
  rw [h.tries]
  exact ⟨Dk.Quiet.syncL ns h, rfl⟩
theorem Ck.get_quiet (h : D.Quiet) (i : Nat) : (C.get D i).2 ≠ 8 := by
  unfold Ck.get
  split
  · decide
  · rename_i p _
    have h1 : (D.read (segName p.seg)).2 = 0 ∨ (D.read (segName p.seg)).2 = 5 := by
      unfold Dk.read
      rw [h.tries]
      simp only [ne_eq, not_true_eq_false, if_false]
      split
      · exact .inl rfl
      · exact .inr rfl
    split
    · rcases h1 with e | e <;> simp [e]
    · unfold atF
      split
      · decide
      · split
        · decide
        · split
          · decide
          · exact fun e => absurd (show (0 : Int) = 8 from e) (by decide)
theorem Ck.got_quiet (h : D.Quiet) (i : Nat) : (C.got D i).Quiet := by
  unfold Ck.got
  rw [h.tries]
  split <;> exact h
theorem gatherL_quiet {seg : Nat} : ∀ (is : List Nat) (D : Dk) (T : List UInt8) (M : List (Int × Pl)), D.Quiet → (gatherL C seg is D T M).2.2.1.Quiet ∧ (gatherL C seg is D T M).2.2.2 ≠ 8
  | [], _, _, _, h => ⟨h, by simp [gatherL]⟩
  | i :: is, D, T, M, h => by
    simp only [gatherL]
    split
    · exact ⟨Ck.got_quiet h i, Ck.get_quiet h i⟩
    · exact gatherL_quiet is _ _ _ (Ck.got_quiet h i)
theorem Ck.finish_quiet (h : D.Quiet) (T : List UInt8) (M : List (Int × Pl)) : (C.finish T M D).2.1.Quiet ∧ (C.finish T M D).2.2 ≠ 8 := by
  obtain ⟨w1, w2⟩ := h.write (segName_ne (C.seg + 1)) T
  obtain ⟨s1, s2⟩ := w1.sync (segName (C.seg + 1))
  obtain ⟨r1, r2⟩ := s1.remove (D.before (C.seg + 1))
  obtain ⟨t1, t2⟩ := r1.syncs (D.before (C.seg + 1))
  unfold Ck.finish
  rw [h.tries]
  by_cases e : (D.write (segName (C.seg + 1)) T).2 = 0
  · by_cases e2 : D.before (C.seg + 1) = []
    · simp only [s2, e, ne_eq, not_true_eq_false, if_false, if_pos e2]
      exact ⟨s1, by decide⟩
    · simp only [s2, r2, e, ne_eq, not_true_eq_false, if_false, if_neg e2]
      exact ⟨t1, by rw [t2]; decide⟩
  · simp only [ne_eq, not_true_eq_false, if_false, e, not_false_eq_true, if_true]
    exact ⟨w1, w2⟩
theorem Sure.sync_same (h : Sure C D X) : C.sync D = (C, D, 0) := by
  unfold Ck.sync
  rw [h.clean]
  simp
theorem Sure.quiet (h : Sure C D X) (hq : D.Quiet) : (C.compact D).2.1.Quiet ∧ (C.compact D).2.2 ≠ 8 := by
  unfold Ck.compact
  rw [h.sync_same]
  simp only [ne_eq, not_true_eq_false, if_false]
  obtain ⟨g1, g2⟩ := gatherL_quiet (C := C) (seg := C.seg + 1) C.ids D (frame (encRec 3 C.map.length [])) [] hq
  have hg : C.gather (C.seg + 1) D = gatherL C (C.seg + 1) C.ids D (frame (encRec 3 C.map.length [])) [] := rfl
  rw [← hg] at g1 g2
  split
  · exact ⟨g1, g2⟩
  · exact Ck.finish_quiet g1 _ _
/-- Compact over such a disk, with room enough. -/
theorem Sure.compact_ok (h : Sure C D X) (hq : D.Quiet) (hf : FitX X) (hb : X.length ≤ 1000) (hs : C.seg + 2 < 100) (hr : D.used + (frames (exactC X)).length ≤ D.room) :
    (C.compact D).2.2 = 0 ∧ Sure (C.compact D).1 (C.compact D).2.1 X ∧ (C.compact D).1.seg = C.seg + 2 ∧ (C.compact D).1.size = 0 ∧ (C.compact D).1.limit = C.limit ∧ (C.compact D).2.1.segs = [C.seg + 1] ∧ (C.compact D).2.1.used = (frames (exactC X)).length ∧ (C.compact D).2.1.Quiet ∧ (C.compact D).2.1.room = D.room := by
  obtain ⟨a1, a2⟩ := h.quiet hq
  obtain ⟨_, c2, _, _, c5⟩ := h.compact hf hb hs
  rcases c5 with c5 | ⟨_, _, _, c5⟩ | ⟨e1, e2, e3, e4, e5, e6, e7⟩
  · exact absurd c5 a2
  · omega
  · exact ⟨e1, e2, e3, e4, e5, e6, e7, a1, c2⟩
theorem exact_le {X : List (Nat × List UInt8)} (hf : FitX X) (hd : ∀ p ∈ X, p.2.length ≤ 40) (hl : X.length ≤ 100) : (frames (exactC X)).length ≤ 100 + X.length * 90 := by
  have h1 := encU_len 3 (by omega)
  have h2 := encU_len X.length (by omega)
  have h3 := encU_len 0 (by omega)
  have h0 : (frame (encRec 3 X.length [])).length ≤ 100 := by
    rw [frame_len]
    simp only [encRec, encS, List.length_append, List.length_nil]
    omega
  have key : ∀ Y : List (Nat × List UInt8), (∀ p ∈ Y, p ∈ X) → (frames (Y.map fun p => encRec 1 p.1 p.2)).length ≤ Y.length * 90 := by
    intro Y
    induction Y with
    | nil => intro _; simp [frames]
    | cons p Y ih =>
      intro hY
      have hp := hY p (by simp)
      have hr := (recs_enc (k := 1) (d := p.2) (.inl rfl) (hf p hp).1 (hf p hp).2).2
      have hdp := hd p hp
      have := ih fun q hq => hY q (by simp [hq])
      simp only [frames, List.map_cons, List.flatMap_cons, List.length_append, List.length_cons] at this ⊢
      omega
  have := key X fun _ h => h
  simp only [frames, exactC, List.flatMap_cons, List.length_append] at this h0 ⊢
  omega

/- Which files are left alone. -/
theorem Dk.removeL_ne {n : List UInt8} : ∀ (ns : List (List UInt8)) (D : Dk), n ∉ ns → lookF n (Dk.removeL ns D).files = lookF n D.files
  | [], _, _ => rfl
  | x :: ns, D, h => by
    simp only [List.mem_cons, not_or] at h
    rw [removeL_step, Dk.removeL_ne ns _ h.2, Dk.put_ne h.1]
theorem Dk.syncL_ne {n : List UInt8} : ∀ (ns : List (List UInt8)) (D : Dk), n ∉ ns → lookF n (Dk.syncL ns D).files = lookF n D.files
  | [], _, _ => rfl
  | x :: ns, D, h => by
    simp only [List.mem_cons, not_or] at h
    rw [syncL_step, Dk.syncL_ne ns _ h.2, Dk.put_ne h.1]
theorem Dk.remove_ne {n : List UInt8} (ns : List (List UInt8)) (D : Dk) (h : n ∉ ns) : lookF n (D.remove ns).1.files = lookF n D.files := by
  unfold Dk.remove
  split
  · rw [D.tries_alike.files]
  · simp only
    rw [Dk.removeL_ne ns _ h, D.tries_alike.files]
theorem Dk.syncs_ne {n : List UInt8} (ns : List (List UInt8)) (D : Dk) (h : n ∉ ns) : lookF n (D.syncs ns).1.files = lookF n D.files := by
  unfold Dk.syncs
  split
  · rw [D.tries_alike.files]
  · simp only
    rw [Dk.syncL_ne ns _ h, D.tries_alike.files]
theorem gatherL_files {seg : Nat} : ∀ (is : List Nat) (D : Dk) (T : List UInt8) (M : List (Int × Pl)), (gatherL C seg is D T M).2.2.1.files = D.files
  | [], _, _, _ => rfl
  | i :: is, D, T, M => by
    simp only [gatherL]
    split
    · exact (C.got_alike D i).files
    · rw [gatherL_files is _ _ _, (C.got_alike D i).files]
theorem Ck.finish_ne {n : List UInt8} (T : List UInt8) (M : List (Int × Pl)) (h1 : n ≠ segName (C.seg + 1)) (h2 : n ∉ D.before (C.seg + 1)) : lookF n (C.finish T M D).2.1.files = lookF n D.files := by
  have hf := D.tries_alike.files
  have hw : lookF n (D.tries.1.write (segName (C.seg + 1)) T).1.files = lookF n D.files := by rw [Dk.write_ne h1, hf]
  have hs : lookF n ((D.tries.1.write (segName (C.seg + 1)) T).1.sync (segName (C.seg + 1))).1.files = lookF n D.files := by rw [Dk.sync_ne h1, hw]
  unfold Ck.finish
  split
  · simp only; rw [hf]
  · split
    · exact hw
    · split
      · exact hs
      · split
        · exact hs
        · split
          · simp only
            rw [Dk.remove_ne _ _ h2, hs]
          · simp only
            rw [Dk.syncs_ne _ _ h2, Dk.remove_ne _ _ h2, hs]
theorem Sure.compact_ne (h : Sure C D X) {i : Nat} (h1 : C.seg + 1 < i) (h2 : i < 100) : lookF (segName i) (C.compact D).2.1.files = Fil.none_ := by
  have hn := h.files (i := i) (by omega) h2
  have hg : (C.gather (C.seg + 1) D).2.2.1.files = D.files := gatherL_files _ _ _ _
  have hb : (C.gather (C.seg + 1) D).2.2.1.before (C.seg + 1) = D.before (C.seg + 1) := by
    unfold Dk.before Dk.segs Dk.now
    rw [hg]
  unfold Ck.compact
  rw [h.sync_same]
  simp only [ne_eq, not_true_eq_false, if_false]
  split
  · rw [hg]; exact hn
  · rw [Ck.finish_ne, hg]
    · exact hn
    · exact fun e => by have := segName_inj h2 (by omega) e; omega
    · rw [hb]
      intro hm
      obtain ⟨j, j1, j2, j3, _⟩ := before_mem hm
      have := segName_inj h2 j2 j3
      omega
theorem Sure.arm (h : Sure C D X) {n : Int} (hn : n ≤ 4294967296) : Sure C { D with armed := n } X :=
  ⟨⟨⟨⟨h.here.good.ok.room, h.here.good.ok.used, h.here.good.ok.fits, hn⟩, h.here.good.clean⟩, ⟨h.here.names.nodup, h.here.names.mem⟩, h.here.lost⟩, h.ok, h.seg, h.above, h.says.mono fun i p _ ht => ⟨ht, [], (List.append_nil _).symm⟩, by rw [← h.rep]; exact Dk.replay_congr _ fun _ _ => rfl, h.safe, h.clean⟩
theorem Sure.inv (h : Sure C D X) (hq : D.Quiet) (h0 : C.size = 0) (hab : (D.now C.seg).there = false) : Inv C D X :=
  ⟨⟨⟨h.here.good, hq.lost, hq.armed⟩, h.here.names, h.ok, h.seg, h.above, .inl ⟨hab, h0⟩, fun n _ => h.safe n, fun _ => h.safe, fun e => by rw [h.clean] at e; cases e⟩, h.says, h.rep⟩
theorem Dk.Quiet.still {D : Dk} (h : D.Quiet) (hg : D.Good) : D.Still := ⟨hg, h.lost, h.armed⟩

end Go.Proofs.YtkplffkchanipaaGreatDoor
