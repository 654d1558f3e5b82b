/- Contracts: a log's read. -/
import Derived.Test.YtmkobpkdodgboaaPWalC
namespace Go.Proofs.Ytmkobpkdodgboaa
open Go D
set_option linter.unusedVariables false
set_option linter.unusedSimpArgs false
namespace Wal
open Disk Enc Hash Snap

structure Lg where
  fr : Int
  n : Int
  ep : Nat
  nx : Nat
  pos : Int
  dead : Bool
deriving DecidableEq
def LRow (p : Nat) (L : Lg) : List Value := [.pointer (some ⟨p, 0, none⟩), .int .i64 L.fr, .int .i64 L.n, .int .u64 (L.ep : Int), .int .u64 (L.nx : Int), .int .i64 L.pos, .bool L.dead]

/-- k sectors from p on -/
def rdC (m : M) (p : Int) : Nat → List UInt8
  | 0 => []
  | k + 1 => rdC m p k ++ (readAt m (p + k)).data.toList
theorem rdC_length {m : M} (hz : ∀ i, (readAt m i).size = 256) (p : Int) : ∀ k, (rdC m p k).length = 256 * k
  | 0 => rfl
  | k + 1 => by
    have := hz (p + k)
    have e : (readAt m (p + k)).data.toList.length = 256 := this
    show (rdC m p k ++ _).length = _
    rw [List.length_append, rdC_length hz p k, e]
    omega
def many (m : M) (L : Lg) : Nat := g64 ((readAt m (L.fr + L.pos)).data.toList.take 4)
def payL (m : M) (L : Lg) : List UInt8 := ((rdC m (L.fr + L.pos) (secs (many m L))).drop 24).take (many m L)
def readM (m : M) (L : Lg) : Option (List ByteArray × Nat) :=
  if L.n ≤ L.pos then none else if (L.n - L.pos) * 256 - 24 < (many m L : Int) then none else
  if (frameF L.ep L.nx (payL m L)).take 24 = (rdC m (L.fr + L.pos) (secs (many m L))).take 24 then (unpackL (payL m L)).map (fun rs => (rs, secs (many m L))) else none

theorem secs_pos (l : Nat) : 1 ≤ secs l := by unfold secs; omega

theorem read_spec {mu im : Nat → Prop} {h : Heap} {p q : Nat} {m : M} {L : Lg} (hr : Disk.Rep h p mu im m) (hc : m.c.length ≤ 1000000) (ho : Row h q (LRow p L)) (g0 : 0 ≤ L.fr) (g1 : 0 ≤ L.pos) (g2 : L.fr + L.n ≤ m.l.length) (g3 : L.pos ≤ 100000) (g4 : -100000 ≤ L.n) {R : Sl × Int × Bool × Int → Heap → Prop}
    (hdead : m.st = 2 → L.pos < L.n → ∀ h', Keep (fun _ => False) h h' → R (⟨none, 0, 0⟩, 0, false, 50) h')
    (hno : readM m L = none → (m.st ≠ 2 ∨ L.n ≤ L.pos) → ∀ h', Keep (fun _ => False) h h' → R (⟨none, 0, 0⟩, 0, false, 0) h')
    (hyes : ∀ rs k, readM m L = some (rs, k) → m.st ≠ 2 → 1 ≤ k → L.pos + (k : Int) ≤ L.n → ∀ s h', Ts h' s.a s.len rs → s.len ≤ s.cap → (∀ b, blk s.a b → h.size ≤ b) → Keep (fun _ => False) h h' → R (s, (k : Int), true, 0) h') :
    CallT Try.prog wal_Log_read_no [.pointer (some ⟨q, 0, none⟩)] h [.sc .sl, .sc (.int .i64), .sc .bool, .sc (.int .i64)] R := by
  apply wal_Log_read_call
  simp only [wal_Log_read, nn_eq]
  rw [add_mk, add_mk, add_mk, add_mk, add_mk]
  have hle := hr.le
  have hz : ∀ i, (readAt m i).size = 256 := by
    obtain ⟨z1, z2⟩ := Rep.secs hr
    exact fun i => readAt_size z1 z2 i
  refine withJ.inl ?_
  refine ldI_row (o := 0 + 5) ho rfl (ldI_row (o := 0 + 2) ho rfl ?_)
  refine cnd_dec (fun hn => ?_) (fun hn => ?_)
  · exact hno (by unfold readM; rw [if_pos hn]) (.inr hn) h (.refl _ _)
  replace hn : ¬ L.n ≤ L.pos := hn
  refine ldP_row (o := 0) ho rfl (ldI_row (o := 0 + 1) ho rfl (ldI_row (o := 0 + 5) ho rfl ?_))
  obtain ⟨P, hP⟩ : ∃ P, P = L.fr + L.pos := ⟨_, rfl⟩
  have ew : w64 (L.fr + L.pos) = P := by rw [w64_id (by omega) (by omega)]; exact hP.symm
  rw [ew]
  by_cases hst : m.st = 2
  · have e : readErr m P = 50 := by unfold readErr; rw [if_pos hst]
    refine Disk.read_spec hr hc (i := P) (by unfold InI; omega) (fun _ => ?_) (fun e' => by rw [e] at e'; cases e')
    rw [e]
    exact cnd_t rfl (hdead hst (by omega) h (.refl _ _))
  have rd0 : ∀ i : Int, 0 ≤ i → i < m.l.length → readErr m i = 0 := fun i a b => by unfold readErr; rw [if_neg hst, if_neg (by omega)]
  refine Disk.read_spec hr hc (i := P) (by unfold InI; omega) (fun e' => absurd (rd0 P (by omega) (by omega)) e') ?_
  intro _ b h1 hb1 hb2 bs1 r1 k1
  refine cnd_f rfl ?_
  have hbl : Bl h1 (some ⟨b, 0, none⟩) 256 256 (readAt m P).data.toList := bs1
  dsimp only
  refine number_spec hbl.rb (by omega) ?_
  have eM : g64 ((readAt m P).data.toList.take 4) = many m L := by unfold many; rw [hP]
  rw [eM]
  obtain ⟨N, hN⟩ : ∃ N, N = many m L := ⟨_, rfl⟩
  rw [← hN]
  have ho1 := k1.row ho (fun h => h)
  refine ldI_row (o := 0 + 2) ho1 rfl (ldI_row (o := 0 + 5) ho1 rfl ?_)
  have e1 : w64 (L.n - L.pos) = L.n - L.pos := w64_id (by omega) (by omega)
  have e2 : w64 ((L.n - L.pos) * 256) = (L.n - L.pos) * 256 := w64_id (by omega) (by omega)
  have e3 : w64 ((L.n - L.pos) * 256 - 24) = (L.n - L.pos) * 256 - 24 := w64_id (by omega) (by omega)
  rw [e1, e2, e3]
  refine cnd_dec (fun hov => ?_) (fun hov => ?_)
  · exact hno (by unfold readM; rw [if_neg hn, if_pos (by rw [← hN]; exact hov)]) (.inl hst) h1 k1
  replace hov : ¬ (L.n - L.pos) * 256 - 24 < (N : Int) := hov
  have hsle := secs_le N
  have hsp := secs_pos N
  have hsn : L.pos + (secs N : Int) ≤ L.n := by unfold secs; omega
  have rl := rdC_length hz P
  refine LoopT.intro (fun (t : Sl × Int) h' => 1 ≤ t.2 ∧ t.2 ≤ secs N ∧ t.1.len = 256 * t.2.toNat ∧ Bl h' t.1.a t.1.len t.1.cap (rdC m P t.2.toNat) ∧ (∀ y, blk t.1.a y → h.size ≤ y) ∧ Keep (fun _ => False) h h') (fun t _ => ((secs N : Nat) - t.2).toNat)
    ⟨by simp, by simp only; omega, by simp, ?_, fun y hy => ?_, k1⟩ ?_
  · show Bl h1 (some ⟨b, 0, none⟩) 256 256 ([] ++ (readAt m (P + ((0 : Nat) : Int))).data.toList)
    rw [List.nil_append, show P + ((0 : Nat) : Int) = P by omega]
    exact hbl
  · rw [blk_some] at hy
    simp only at hy
    omega
  rintro ⟨s, i⟩ h2 ⟨p1, p2, p3, p4, p5, p6⟩
  replace p1 : 1 ≤ i := p1
  replace p2 : i ≤ secs N := p2
  replace p3 : s.len = 256 * i.toNat := p3
  replace p4 : Bl h2 s.a s.len s.cap (rdC m P i.toNat) := p4
  replace p5 : ∀ y, blk s.a y → h.size ≤ y := p5
  have ho2 := p6.row ho (fun h => h)
  have r2 := hr.keep p6 (fun _ _ h => h) (fun _ _ h => h)
  have z6 := p6.size
  refine sectors_spec (by omega) ?_
  refine cnd_dec (fun hi => ?_) (fun hi => ?_)
  · replace hi : i < secs N := hi
    refine ldP_row (o := 0) ho2 rfl (ldI_row (o := 0 + 1) ho2 rfl (ldI_row (o := 0 + 5) ho2 rfl ?_))
    rw [ew]
    have ewi : w64 (P + i) = P + (i.toNat : Int) := by rw [w64_id (by omega) (by omega)]; omega
    show CallT Try.prog disk_Dev_Read_no [.pointer (some ⟨p, 0, none⟩), .int .i64 (w64 (P + i))] h2 _ _
    rw [ewi]
    refine Disk.read_spec r2 hc (i := P + (i.toNat : Int)) (by unfold InI; omega) (fun e' => absurd (rd0 _ (by omega) (by omega)) e') ?_
    intro _ b3 h3 hb31 hb32 bs3 r3 k3
    refine cnd_f rfl ?_
    have hbl3 : Bl h3 (some ⟨b3, 0, none⟩) 256 256 (readAt m (P + (i.toNat : Int))).data.toList := bs3
    dsimp only
    refine hbl3.rb.rd ?_
    have p4' : Bl h3 s.a s.len s.cap _ := SlR.keep p4 k3 (fun _ _ h => h)
    refine p4'.push (new := (readAt m (P + (i.toNat : Int))).data.toList) (by omega) (hz _).symm rfl ?_
    intro a4 c4 h4 v1 v2 v3
    have hw : w64 (i + 1) = i + 1 := w64_id (by omega) (by omega)
    show (1 ≤ w64 (i + 1) ∧ w64 (i + 1) ≤ secs N ∧ s.len + 256 = 256 * (w64 (i + 1)).toNat ∧ Bl h4 a4 (s.len + 256) c4 (rdC m P (w64 (i + 1)).toNat) ∧ (∀ y, blk a4 y → h.size ≤ y) ∧ Keep (fun _ => False) h h4) ∧ ((secs N : Nat) - w64 (i + 1)).toNat < ((secs N : Nat) - i).toNat
    rw [hw, show (i + 1).toNat = i.toNat + 1 by omega]
    refine ⟨⟨by omega, by omega, by omega, v1, fun y hy => ?_, (p6.trans' k3).trans v2 (fun y hy hb => by have := p5 y hb; omega)⟩, by omega⟩
    rcases v3 y hy with hh | hh
    · exact p5 y hh
    · have := k3.size; omega
  · replace hi : ¬ i < secs N := hi
    have hii : i.toNat = secs N := by omega
    rw [hii] at p3 p4
    have hcap := SlR.le p4
    have e4 : w64 (24 + (N : Int)) = 24 + N := w64_id (by omega) (by omega)
    rw [e4]
    refine p4.rb.sub (by omega) (by omega) (by omega) (by show 24 + (N : Int) ≤ (s.cap : Int); omega) (by omega) ?_
    intro a5 w5 wb5
    rw [show (24 + (N : Int) - 24).toNat = N by omega] at w5 ⊢
    rw [show ((s.cap : Int) - 24).toNat = s.cap - 24 by omega]
    have w5' : Rb h2 a5 N (payL m L) := by
      unfold payL
      rw [← hN, ← hP]
      exact w5
    refine ldI_row (o := 0 + 3) ho2 rfl (ldI_row (o := 0 + 4) ho2 rfl ?_)
    refine p4.rb.sub (by omega) (by omega) (by omega) (by show (24 : Int) ≤ (s.cap : Int); omega) (by omega) ?_
    intro a6 w6 wb6
    have w6' : Rb h2 a6 24 ((rdC m P (secs N)).take 24) := w6
    show b2s a6 24 h2 _
    refine w6'.str ?_
    refine frame_spec w5' (by omega) ?_
    intro s7 h7 sl7 b7 n7 k7
    refine ⟨(show Rb h7 a6 24 _ from Rv.keep w6' k7 (fun _ _ _ h => h)).str rfl, ?_⟩
    have hc7 := SlR.le b7
    refine b7.rb.sub (by omega) (by omega) (by omega) (by show (24 : Int) ≤ (s7.cap : Int); omega) (by omega) ?_
    intro a8 w8 _
    have w8' : Rb h7 a8 24 ((frameF L.ep L.nx (payL m L)).take 24) := w8
    show b2s a8 24 h7 _
    refine w8'.str ?_
    rw [seq_ofL]
    have eR : readM m L = if (frameF L.ep L.nx (payL m L)).take 24 = (rdC m P (secs N)).take 24 then (unpackL (payL m L)).map (fun rs => (rs, secs N)) else none := by
      unfold readM
      rw [if_neg hn, ← hN, ← hP, if_neg hov]
    have k07 := p6.trans' k7
    refine cnd_of (fun hne => ?_) (fun heq => ?_)
    · have hne' : ¬ (frameF L.ep L.nx (payL m L)).take 24 = (rdC m P (secs N)).take 24 := by simpa using hne
      exact hno (by rw [eR, if_neg hne']) (.inl hst) h7 k07
    have heq' : (frameF L.ep L.nx (payL m L)).take 24 = (rdC m P (secs N)).take 24 := by simpa using heq
    rw [if_pos heq'] at eR
    refine unpack_spec (Rv.keep w5' k7 (fun _ _ _ h => h)) (by omega) (by omega) (fun hu h8 k8 => ?_) (fun rs hu s8 h8 t8 l8 n8 k8 => ?_)
    · exact cnd_t rfl (hno (by rw [eR, hu]; rfl) (.inl hst) h8 (k07.trans' k8))
    · refine cnd_f rfl ?_
      refine sectors_spec (by omega) ?_
      have z07 := k07.size
      exact hyes rs (secs N) (by rw [eR, hu]; rfl) hst hsp hsn s8 h8 t8 l8 (fun b hb => by have := n8 b hb; omega) (k07.trans' k8)

end Wal
end Go.Proofs.Ytmkobpkdodgboaa
