/- What the evaluator is told of ServiceMay's command: Write, an entry's frame, Read; what IsOpen says. -/
import Derived.Test.YtdgjkejfmehphaaGreatDoorMTold
import Derived.Test.YtdgjkejfmehphaaGreatDoorMapN
set_option linter.unusedVariables false
noncomputable section
namespace Go.Proofs.YtdgjkejfmehphaaGreatDoor.Av
open Go Go.RowKit
def i0 : AV := .int .i64 (.ofNat 0)
def i1 : AV := .int .i64 (.ofNat 1)
/-- The first seven fields of the command, as the evaluator has them. -/
structure FldOk (p : Mp) (fs : List AV) (put : Bool) : Prop where
  dput : put = true → p.cm.disks = [0, 1]
  dno : put = false → p.cm.disks = []
  pool : p.cm.pool = 0
  vol : p.cm.vol = 0
  at_ : p.cm.at_ = 0
  wr : ∀ e vs, e.I = spM p → VRs e fs vs → vs = [.int .i64 (p.cm.kind : Int), .int .i64 (p.cm.client : Int), .int .i64 (p.cm.seq : Int), .string (bs p.cm.name), .int .u64 (p.cm.blob : Int), .int .i64 (p.cm.size : Int), .int .u32 (p.cm.sum : Int)]
  rd : ∀ e, e.I = spM p → VRs e fs [.int .i64 (p.cm.kind : Int), .int .i64 (p.cm.client : Int), .int .i64 (p.cm.seq : Int), .string (bs p.cm.name), .int .u64 (p.cm.blob : Int), .int .i64 (p.cm.size : Int), .int .u32 (p.cm.sum : Int)]
  one : ∀ x ∈ fs, x.one = true
section
variable {p : Mp} {e : Env} {v : Value} {w : World} {σ σ' : AH} {args : List AV} {u : AV} {args' : List Value} {fs : List AV} {put : Bool}
/-- The command's disks. -/
noncomputable def dskB (put : Bool) (d : AV) (σ : AH) : Bool := match put, d with
  | false, .sl none 0 (.k 0) => true
  | true, .sl (some (l, 0)) 2 _ => (match σ.get l with
    | some (.cells (.int .i64 (.ofNat a) :: .int .i64 (.ofNat b) :: _) t false _) => cnd (Nat.beq t 3) (cnd (Nat.beq a 0) (Nat.beq b 1) false) false
    | _ => false)
  | _, _ => false
theorem dsk_ok (hf : FldOk p fs put) {d : AV} (h : dskB put d σ = true) (hr : Rel e σ w) (hv : VR e d v) : IntSl w v p.cm.disks := by
  unfold dskB at h
  split at h
  · rw [hf.dno rfl]
    cases hv
    exact IntSl.nil w
  · rename_i l kp
    rw [hf.dput rfl]
    split at h
    · rename_i a b rest t cv hg
      rw [AH.get_eq] at hg
      obtain ⟨h1, h2⟩ := and_cnd h
      obtain ⟨h3, h4⟩ := and_cnd h2
      obtain rfl := Nat.eq_of_beq_eq_true h1
      obtain rfl := Nat.eq_of_beq_eq_true h3
      obtain rfl := Nat.eq_of_beq_eq_true h4
      cases hv with
      | sl _ _ g _ _ cap hb hk hn =>
      obtain ⟨b2, cs', rst, fr, k1, k2, k5, -, k6, -⟩ := hr.cells hg
      obtain rfl : g = b2 := by rw [hb] at k1; exact Option.some.inj k1
      obtain rfl := k6 rfl
      cases k5 with
      | cons x0 x0' cs0 cs0' hx0 hcs0 =>
      cases hcs0 with
      | cons x1 x1' cs1 cs1' hx1 hcs1 =>
      cases hx0
      cases hx1
      refine .inr ⟨g, 0, cap, _, rfl, k2, fun j hj => ?_⟩
      have hj : j < 2 := hj
      have : j = 0 ∨ j = 1 := by omega
      rcases this with rfl | rfl
      · rfl
      · rfl
    · cases h
  · cases h
noncomputable def writeT (fs : List AV) (put : Bool) (args : List AV) (σ : AH) : RV := match args with
  | [.agg [a0, a1, a2, a3, a4, a5, a6, d, b0, b1, b2]] => cnd (AV.eqbs [a0, a1, a2, a3, a4, a5, a6] fs) (cnd (AV.eqbs [b0, b1, b2] [i0, i0, i0]) (cnd (dskB put d σ) (.ok (.sp (.s [.at 5])) σ) (.bad 0 0 13)) (.bad 0 0 13)) (.bad 0 0 13)
  | _ => .bad 0 0 13
theorem writeT_ok (hp : p.Ok) (hf : FldOk p fs put) (h : writeT fs put args σ = .ok u σ') (hr : Rel e σ w) (hI : e.I = spM p) (hv : VRs e args args') : Calls P 56 args'.toArray w (Post e σ w u σ') := by
  unfold writeT at h
  split at h
  · rename_i a0 a1 a2 a3 a4 a5 a6 d b0 b1 b2
    rcases cnd_eq h with ⟨h1, h2⟩ | ⟨_, h2⟩
    · obtain rfl := AV.eqbs_eq h1
      rcases cnd_eq h2 with ⟨h3, h4⟩ | ⟨_, h4⟩
      · have h3 := AV.eqbs_eq h3
        injection h3 with q0 h3
        injection h3 with q1 h3
        injection h3 with q2 _
        subst q0 q1 q2
        rcases cnd_eq h4 with ⟨h5, h6⟩ | ⟨_, h6⟩
        · injection h6 with h7 h8
          subst h7 h8
          cases hv with
          | cons _ y _ ys hy hys =>
          cases hys
          cases hy with
          | agg _ l _ hl =>
          cases hl with
          | cons _ x0 _ l0 g0 hl =>
          cases hl with
          | cons _ x1 _ l1 g1 hl =>
          cases hl with
          | cons _ x2 _ l2 g2 hl =>
          cases hl with
          | cons _ x3 _ l3 g3 hl =>
          cases hl with
          | cons _ x4 _ l4 g4 hl =>
          cases hl with
          | cons _ x5 _ l5 g5 hl =>
          cases hl with
          | cons _ x6 _ l6 g6 hl =>
          cases hl with
          | cons _ x7 _ l7 g7 hl =>
          cases hl with
          | cons _ x8 _ l8 g8 hl =>
          cases hl with
          | cons _ x9 _ l9 g9 hl =>
          cases hl with
          | cons _ x10 _ l10 g10 hl =>
          cases hl
          cases g8
          cases g9
          cases g10
          have hw := hf.wr e _ hI (.cons _ _ _ _ g0 (.cons _ _ _ _ g1 (.cons _ _ _ _ g2 (.cons _ _ _ _ g3 (.cons _ _ _ _ g4 (.cons _ _ _ _ g5 (.cons _ _ _ _ g6 .nil)))))))
          simp only [List.cons.injEq, and_true] at hw
          obtain ⟨rfl, rfl, rfl, rfl, rfl, rfl, rfl⟩ := hw
          have hd := dsk_ok hf h5 hr g7
          have hc := cwrite_calls p.cm hp.cm x7 w hd
          rw [hf.pool, hf.vol, hf.at_] at hc
          refine hc.mono fun e0 w' ⟨he, hk⟩ => ?_
          subst he
          refine ⟨e, ?_, Step.below hr (keep_below hk)⟩
          have := val_at hI 5
          rw [show p.A 5 = (encC p.cm).map UInt8.toNat from rfl, strB_bs] at this
          exact this
        · cases h6
      · cases h4
    · cases h2
  · cases h
theorem ent_ok (hp : p.Ok) : p.ent.Ok := by
  have h1 := encC1_len hp.cm
  have h2 := encC2_len hp.cm
  refine ⟨by simp only [Mp.ent]; omega, by simp only [Mp.ent]; omega, ?_⟩
  simp only [Mp.ent, encC, List.length_append]
  omega
/-- frames of one entry: its frame. -/
noncomputable def framesT (args : List AV) (σ : AH) : RV := match args with
  | [.sl (some (l, 0)) 1 _] => (match σ.get l with
    | some (.cells (.int .i64 (.ofNat ix) :: .int .i64 (.ofNat tm) :: .sp (.s [.at k]) :: _) _ _ _) => cnd (Nat.beq k 5) (cnd (Nat.beq ix 2) (cnd (Nat.beq tm 1) (match σ.get 0 with
      | some (.cells cs _ _ _) => cnd (AV.eqbs cs tabA) (opt (.bad 232 0 8) (σ.get 1) fun _ => .ok (.sp (.s [.at 6])) σ) (.bad 232 0 9)
      | _ => .bad 232 0 6) (.bad 232 0 1)) (.bad 232 0 2)) (.bad 232 0 2)
    | _ => .bad 232 0 3)
  | _ => .bad 232 0 4
theorem framesT_ok (hp : p.Ok) (h : framesT args σ = .ok u σ') (hr : Rel e σ w) (hB : Glob 4 (spM p) e) (hv : VRs e args args') : Calls P 291 args'.toArray w (Post e σ w u σ') := by
  unfold framesT at h
  split at h
  · rename_i l c
    split at h
    · rename_i ix tm k rest t fz cv hg
      rw [AH.get_eq] at hg
      rcases cnd_eq h with ⟨a1, a2⟩ | ⟨_, a2⟩
      · rcases cnd_eq a2 with ⟨b1, b2⟩ | ⟨_, b2⟩
        · rcases cnd_eq b2 with ⟨c1, c2⟩ | ⟨_, c2⟩
          · split at c2
            · rename_i cs t2 fz2 cv2 hg0
              rw [AH.get_eq] at hg0
              rcases cnd_eq c2 with ⟨k3, k4⟩ | ⟨_, k4⟩
              · cases hg1 : σ.get 1 with
                | none => rw [hg1] at k4; cases k4
                | some ob =>
                rw [hg1] at k4
                injection (show RV.ok (.sp (.s [.at 6])) σ = RV.ok u σ' from k4) with h7 h8
                subst h7 h8
                rw [AH.get_eq] at hg1
                have hT := tab_of hr hB hg0 k3 hg1
                obtain rfl := Nat.eq_of_beq_eq_true a1
                obtain rfl := Nat.eq_of_beq_eq_true b1
                obtain rfl := Nat.eq_of_beq_eq_true c1
                cases hv with
                | cons _ y _ ys hy hys =>
                cases hys
                cases hy with
                | sl _ _ b _ _ cap hb hk hn =>
                obtain ⟨b2', cs', rst, fr, k1, k2, k5, -, -, -⟩ := hr.cells hg
                obtain rfl : b = b2' := by rw [hb] at k1; exact Option.some.inj k1
                cases k5 with
                | cons x0 x0' cs0 cs0' hx0 hcs0 =>
                cases hcs0 with
                | cons x1 x1' cs1 cs1' hx1 hcs1 =>
                cases hcs1 with
                | cons x2 x2' cs2 cs2' hx2 hcs2 =>
                cases hx0
                cases hx1
                have hz := at_val hB.2 hx2
                subst hz
                rw [show p.A 5 = (encC p.cm).map UInt8.toNat from rfl, strB_bs] at k2
                have hE : EntsAt w (.slice (some ⟨b, 0, none⟩) 1 cap) [p.ent] := ⟨_, cap, rfl, fun _ => ⟨b, 0, rfl, fun i u hu => by
                  rw [cell_at k2, Nat.zero_add]
                  have hu' : [Value.int .i64 ((2 : Nat) : Int), .int .i64 ((1 : Nat) : Int), .string (bs (encC p.cm))][i]? = some u := hu
                  have hi : i < 3 := by
                    rcases Nat.lt_or_ge i 3 with hi | hi
                    · exact hi
                    · rw [List.getElem?_eq_none (by simpa using hi)] at hu'; cases hu'
                  have : i = 0 ∨ i = 1 ∨ i = 2 := by omega
                  rcases this with rfl | rfl | rfl
                  · exact hu'
                  · exact hu'
                  · exact hu'⟩⟩
                refine (frames_calls [p.ent] _ w hT hE (by simp) (fun e he => by rw [List.mem_singleton.1 he]; exact ent_ok hp)).mono fun e0 w' ⟨he, hk⟩ => ?_
                subst he
                refine ⟨e, ?_, Step.below hr (keep_below hk)⟩
                have := val_at hB.2 6
                rw [show p.A 6 = (frs [p.ent]).map UInt8.toNat from rfl, strB_bs] at this
                exact this
              · cases k4
            · cases c2
          · cases c2
        · cases b2
      · cases a2
    · cases h
  · cases h
end
end Go.Proofs.YtdgjkejfmehphaaGreatDoor.Av
end
