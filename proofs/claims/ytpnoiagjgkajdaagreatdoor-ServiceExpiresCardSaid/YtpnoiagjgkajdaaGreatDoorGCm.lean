/- Plain: a command, and its bytes. No program in sight. -/
import Derived.Test.YtpnoiagjgkajdaaGreatDoorEncI
namespace Go.Proofs.YtpnoiagjgkajdaaGreatDoor
open Go.RowKit

theorem encU_small {n k : Nat} (h : n < 128 ^ (k + 1)) : (encU n).length ≤ k + 1 := by
  unfold encU
  have := encH_len k (n / 128) (by rw [Nat.pow_succ] at h; omega)
  simp only [List.length_append, List.length_cons, List.length_nil]
  omega
/-- A command. -/
structure Cm where
  kind : Nat
  client : Nat
  seq : Nat
  name : List UInt8
  blob : Nat
  size : Nat
  sum : Nat
  disks : List Nat
  pool : Nat
  vol : Nat
  at_ : Nat
/-- One that may be said. -/
structure Cm.Ok (c : Cm) : Prop where
  kind : 1 ≤ c.kind ∧ c.kind ≤ 14
  client : c.client ≤ 1073741824
  seq : c.seq ≤ 1073741824
  name : c.name.length ≤ 32
  blob : c.blob < 18446744073709551616
  size : c.size ≤ 4000
  sum : c.sum ≤ 4294967295
  disks : c.disks.Pairwise (· < ·)
  disk : ∀ d ∈ c.disks, d ≤ 5
  pool : c.pool ≤ 1
  vol : c.vol ≤ 11
  at_ : c.at_ ≤ 1073741824
theorem pw_len : ∀ (l : List Nat) (m : Nat), l.Pairwise (· < ·) → (∀ d ∈ l, m ≤ d ∧ d ≤ 5) → l.length ≤ 6 - m
  | [], _, _, _ => Nat.zero_le _
  | x :: l, m, h, hb => by
    have h1 := List.pairwise_cons.1 h
    have h2 := pw_len l (x + 1) h1.2 fun d hd => ⟨h1.1 d hd, (hb d (List.mem_cons_of_mem _ hd)).2⟩
    have h3 := hb x (by simp)
    simp only [List.length_cons]
    omega
theorem Cm.Ok.len {c : Cm} (h : c.Ok) : c.disks.length ≤ 6 := pw_len c.disks 0 h.disks fun d hd => ⟨Nat.zero_le _, h.disk d hd⟩
/-- Its bytes, in two halves. -/
def encC1 (c : Cm) : List UInt8 := encIs [c.kind, c.client, c.seq] ++ (encS c.name ++ (encU c.blob ++ (encIs [c.size] ++ encU c.sum)))
def encC2 (c : Cm) : List UInt8 := (encIs [c.disks.length] ++ encIs c.disks) ++ encIs [c.pool, c.vol, c.at_]
def encC (c : Cm) : List UInt8 := encC1 c ++ encC2 c
theorem encIs_small {l : List Nat} {k : Nat} (h : ∀ n ∈ l, n < 128 ^ (k + 1)) : (encIs l).length ≤ (k + 1) * l.length := by
  induction l with
  | nil => simp [encIs]
  | cons x l ih =>
    have h1 := encU_small (h x (by simp))
    have h2 := ih fun n hn => h n (List.mem_cons_of_mem _ hn)
    have e : encIs (x :: l) = encU x ++ encIs l := rfl
    rw [e, List.length_append, List.length_cons, Nat.mul_succ]
    omega
theorem encC1_len {c : Cm} (h : c.Ok) : (encC1 c).length ≤ 80 := by
  have e1 := encIs_small (l := [c.kind, c.client, c.seq]) (k := 4) (by have := h.kind; have := h.client; have := h.seq; simp; omega)
  have e2 := encU_small (n := c.name.length) (k := 0) (by have := h.name; omega)
  have e3 := encU_small (n := c.blob) (k := 9) (by have := h.blob; omega)
  have e4 := encIs_small (l := [c.size]) (k := 1) (by have := h.size; simp; omega)
  have e5 := encU_small (n := c.sum) (k := 4) (by have := h.sum; omega)
  have e6 := h.name
  simp only [encC1, encS, List.length_append, List.length_cons, List.length_nil] at *
  omega
theorem encC2_len {c : Cm} (h : c.Ok) : (encC2 c).length ≤ 30 := by
  have e1 := encIs_small (l := [c.disks.length]) (k := 0) (by have := h.len; simp; omega)
  have e2 := encIs_small (l := c.disks) (k := 0) (by intro n hn; have := h.disk n hn; omega)
  have e3 := encIs_small (l := [c.pool, c.vol, c.at_]) (k := 4) (by have := h.pool; have := h.vol; have := h.at_; simp; omega)
  have e4 := h.len
  simp only [encC2, List.length_append, List.length_cons, List.length_nil] at *
  omega
theorem encU_pos (n : Nat) : 1 ≤ (encU n).length := by unfold encU; simp
theorem encC_ne (c : Cm) : encC c ≠ [] := by
  have h := encU_pos c.kind
  have e : (encC c).length = (encU c.kind).length + ((encIs [c.client, c.seq]).length + (encS c.name ++ (encU c.blob ++ (encIs [c.size] ++ encU c.sum))).length + (encC2 c).length) := by
    simp only [encC, encC1, encIs, List.flatMap_cons, List.length_append]
    omega
  intro h0
  rw [h0] at e
  simp only [List.length_nil] at e
  omega
end Go.Proofs.YtpnoiagjgkajdaaGreatDoor
