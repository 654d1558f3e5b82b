/- stowagelaw5.DiskApart returns true and writes nothing that was there. -/
import Derived.Test.YtmmoilenemogoaaPDiskD
import Derived.Test.YtmmoilenemogoaaPDiskE
namespace Go.Proofs.Ytmmoilenemogoaa
open Go D
set_option linter.unusedVariables false
set_option linter.unusedSimpArgs false
namespace Disk

theorem and7_range (x : Int) : 0 ≤ andI .i64 x 7 ∧ andI .i64 x 7 < 8 := by
  unfold andI
  rw [BitVec.toNat_and]
  have h7 : (BitVec.ofInt IntKind.i64.bits 7).toNat = 7 := by decide
  rw [h7]
  have hle : (BitVec.ofInt IntKind.i64.bits x).toNat &&& 7 ≤ 7 := Nat.and_le_right
  have e := w64_id (x := (((BitVec.ofInt IntKind.i64.bits x).toNat &&& 7 : Nat) : Int)) (by omega) (by omega)
  show 0 ≤ w64 _ ∧ w64 _ < 8
  rw [e]
  omega

/-- an int of a slice is read, then read again behind a call that keeps it -/
theorem IntsAt.get {h : Heap} {a : Option Addr} {l : Nat} (hs : IntsAt h a l) {i : Int} (h0 : 0 ≤ i) (h1 : i < l) : ∃ x z, a = some x ∧ InI z ∧ ∀ h', Keep (fun y => h.size ≤ y) h h' → cellH h' (x.add (i.toNat * 1)) = some (.int .i64 z) := by
  obtain ⟨x, z, h2, h3, h4⟩ := hs i.toNat (by omega)
  exact ⟨x, z, h2, h4, fun h' hk => hk.cell h3 (by have := cell_lt h3; omega)⟩

def Alive (m : M) (n : Int) : Prop := m.st = 0 ∧ m.l.length = 8 ∧ (m.c.length : Int) ≤ n

/-- Sector, then Write: a device that is alive -/
theorem lay_sector {mu im : Nat → Prop} {h : Heap} {p : Nat} {m : M} (hr : Rep h p mu im m) {n a b i : Int} (ha : Alive m n) (hn : n ≤ 1000) (h0 : 0 ≤ i) (h1 : i < 8) {Q : Heap → Prop} (hQ : ∀ h', Keep (fun _ => False) h h' → Q h') {R : Int → Heap → Prop}
    (hk : ∀ mu' im' h', Rep h' p mu' im' { m with c := m.c ++ [(i, sector a b)] } → Alive { m with c := m.c ++ [(i, sector a b)] } (n + 1) → Keep mu h h' → Grew h mu im mu' im' → R 0 h') :
    CallT Try.prog law5_Sector_no [.int .i64 a, .int .i64 b] h [.sc .sl] fun (r14 : Sl) h15 => Q h15 ∧ CallT Try.prog disk_Dev_Write_no [.pointer (some ⟨p, 0, none⟩), .int .i64 i, .slice r14.a r14.len r14.cap] h15 [.sc (.int .i64)] R := by
  obtain ⟨a1, a2, a3⟩ := ha
  refine sector_spec ?_
  intro h4 b4 k4 s4
  refine ⟨hQ h4 k4, ?_⟩
  have r4 := hr.keep k4 (fun _ _ h => h) (fun _ _ h => h)
  have hwr := write_alive (m := m) (i := i) (s := sector a b) a1 h0 (by omega) (sector_size _ _)
  refine write_spec r4 (by unfold InI; omega) b4 (by rw [sector_size]; omega) (by omega) (fun b hb hm => ?_) ?_
  · rw [blk_some] at hb
    have := hr.lt b (.inl hm)
    simp only at hb
    omega
  · rw [hwr]
    intro mu' im' h5 r5 k5 gr
    refine hk mu' im' h5 r5 ⟨a1, a2, by simp only [List.length_append, List.length_singleton]; omega⟩ ((k4.mono (fun _ _ h => h.elim)).trans k5 (fun _ _ h => h)) ⟨fun b hb => ?_, fun b hb => ?_⟩
    · rcases gr.1 b hb with hh | hh
      · exact .inl hh
      · exact .inr (by have := k4.size; omega)
    · rcases gr.2 b hb with hh | hh
      · exact .inl hh
      · exact .inr (by have := k4.size; omega)

theorem same_reads {h : Heap} {p q : Nat} {mu mq im : Nat → Prop} {m : M} (hp : Rep h p mu im m) (hq : Rep h q mq im m) (hc : m.c.length ≤ 1000000) (hst : m.st = 0) (hl : m.l.length = 8) {i : Int} (h0 : 0 ≤ i) (h1 : i < 8) {K : Bool → Heap → Prop} (hk : ∀ h', Keep (fun _ => False) h h' → K false h') :
    CallT Try.prog disk_Dev_Read_no [.pointer (some ⟨p, 0, none⟩), .int .i64 i] h [.sc .sl, .sc (.int .i64)] fun (r49 : Sl × Int) h50 => CallT Try.prog disk_Dev_Read_no [.pointer (some ⟨q, 0, none⟩), .int .i64 i] h50 [.sc .sl, .sc (.int .i64)] fun (r51 : Sl × Int) h52 =>
      withJ (σ := Bool) K fun J54 => cnd (r49.2 != 0) (J54 true h52) (cnd (r51.2 != 0) (J54 true h52) (b2s r49.1.a r49.1.len h52 fun s56 => b2s r51.1.a r51.1.len h52 fun s57 => J54 (!seq s56 s57) h52)) := by
  have hre : readErr m i = 0 := by unfold readErr; rw [if_neg (by omega), if_neg (by omega)]
  refine read_spec hp hc (by unfold InI; omega) (fun hb => absurd hre hb) ?_
  intro _ b h2 _ hb2 b2 r2 k2
  refine read_spec (hq.keep k2 (fun _ _ h => h) (fun _ _ h => h)) hc (by unfold InI; omega) (fun hb => absurd hre hb) ?_
  intro _ b' h3 _ hb3 b3 r3 k3
  refine withJ.inl (cnd_f rfl (cnd_f rfl ?_))
  refine (b2.keep k3 (fun _ _ h => h)).str ?_
  refine b3.str ?_
  rw [seq_self]
  exact hk h3 (k2.trans' k3)

theorem diskApart_spec {h : Heap} {x0 x1 : Sl} (hs0 : IntsAt h x0.a x0.len) (hs1 : IntsAt h x1.a x1.len) {R : Bool → Heap → Prop} (hR : ∀ h', Keep (fun _ => False) h h' → R true h') :
    CallT Try.prog law5_DiskApart_no [.slice x0.a x0.len x0.cap, .slice x1.a x1.len x1.cap] h [.sc .bool] R := by
  apply law5_DiskApart_call
  simp only [law5_DiskApart, cnd_and]
  refine new_spec (by unfold InI; omega) (fun hb => by omega) ?_
  intro _ _ p mu0 im0 h1 hnew hr hk1
  refine withJ.inl (withJ.inl ?_)
  refine cnd_f rfl (cnd_f rfl ?_)
  refine LoopT.intro (fun i h' => 0 ≤ i ∧ i ≤ 30 ∧ ∃ m mu im, Rep h' p mu im m ∧ Alive m i ∧ (∀ b, mu b ∨ im b → h.size ≤ b) ∧ Keep (fun y => h.size ≤ y) h h') (fun i _ => (30 - i).toNat) ⟨by omega, by omega, _, mu0, im0, hr, ⟨rfl, rfl, by decide⟩, hnew, hk1.mono (fun _ _ h => h.elim)⟩ ?_
  rintro i h2 ⟨g1, g2, m, mu, im, r2, al, hn, k2⟩
  refine withJ.inl ?_
  refine cnd_of (fun hin => ?_) (fun hout => ?_)
  · simp only [Bool.and_eq_true, decide_eq_true_eq] at hin
    obtain ⟨x, z, hx, hz, hc⟩ := IntsAt.get hs0 g1 hin.1
    rw [hx]
    refine idx_some g1 hin.1 (ldI_at (hc h2 k2) ?_)
    have h7 := and7_range z
    refine lay_sector (Q := fun h15 => ldI .i64 (x.add (i.toNat * 1)) h15 fun n16 => (.int .i64 n16 : Value) = .int .i64 z) r2 al (by omega) h7.1 h7.2 (fun h' k' => ldI_at (hc h' (k2.trans k' (fun _ _ h => h.elim))) rfl) ?_
    intro mu' im' h3 r3 al3 k3 gr
    rw [w64_id (x := i + 1) (by omega) (by omega)]
    refine ⟨⟨by omega, by omega, _, mu', im', r3, al3, fun b hb => ?_, k2.trans k3 (fun y hy hm => hn y (.inl hm))⟩, by omega⟩
    have := k2.size
    rcases hb with hb | hb
    · rcases gr.1 b hb with hh | hh
      · exact hn b (.inl hh)
      · omega
    · rcases gr.2 b hb with hh | hh
      · exact hn b (.inr hh)
      · omega
  · obtain ⟨a1, a2, a3⟩ := al
    have hcl : m.c.length ≤ 1000000 := by omega
    refine copy_spec r2 hcl ?_
    intro pc muc h3 nc rc3 rd3 k3
    refine copy_spec rd3 hcl ?_
    intro pw muw h4 nw rw4 rd4 k4
    have rc4 := rc3.keep k4 (fun _ _ h => h) (fun _ _ h => h)
    refine withJ.inl (withJ.inl ?_)
    refine cnd_f rfl (cnd_f rfl ?_)
    have k24 : Keep (fun y => h.size ≤ y) h h4 := (k2.trans k3 (fun _ _ h => h.elim)).trans k4 (fun _ _ h => h.elim)
    have ncs : ∀ b, muc b → h.size ≤ b := fun b hb => by have := nc b hb; have := k2.size; omega
    refine LoopT.intro (fun j h' => 0 ≤ j ∧ j ≤ 30 ∧ ∃ mc muc imc, Rep h' pc muc imc mc ∧ Alive mc (30 + j) ∧ Rep h' p mu im m ∧ Rep h' pw muw im m ∧ (∀ b, muc b → ¬ mu b ∧ ¬ im b ∧ ¬ muw b ∧ h.size ≤ b) ∧ Keep (fun y => h.size ≤ y) h h') (fun j _ => (30 - j).toNat)
      ⟨by omega, by omega, m, muc, im, rc4, ⟨a1, a2, by omega⟩, rd4, rw4, fun b hb => ⟨fun hm => by have := nc b hb; have := r2.lt b (.inl hm); omega, rc4.dis b hb, fun hm => by have := nw b hm; have := rc3.lt b (.inl hb); omega, ncs b hb⟩, k24⟩ ?_
    rintro j h5 ⟨q1, q2, mc, muc', imc, rc5, alc, rd5, rw5, far, k5⟩
    refine withJ.inl ?_
    refine cnd_of (fun hin => ?_) (fun hout2 => ?_)
    · simp only [Bool.and_eq_true, decide_eq_true_eq] at hin
      obtain ⟨x, z, hx, hz, hc⟩ := IntsAt.get hs1 q1 hin.1
      rw [hx]
      refine idx_some q1 hin.1 (ldI_at (hc h5 k5) ?_)
      have h7 := and7_range z
      refine lay_sector (Q := fun h15 => ldI .i64 (x.add (j.toNat * 1)) h15 fun n16 => (.int .i64 n16 : Value) = .int .i64 z) rc5 alc (by omega) h7.1 h7.2 (fun h' k' => ldI_at (hc h' (k5.trans k' (fun _ _ h => h.elim))) rfl) ?_
      intro mu' im' h6 r6 al6 k6 gr
      rw [w64_id (x := j + 1) (by omega) (by omega)]
      refine ⟨⟨by omega, by omega, _, mu', im', r6, by rw [show 30 + (j + 1) = 30 + j + 1 by omega]; exact al6, rd5.keep k6 (fun b hb hm => (far b hm).1 hb) (fun b hb hm => (far b hm).2.1 hb), rw5.keep k6 (fun b hb hm => (far b hm).2.2.1 hb) (fun b hb hm => (far b hm).2.1 hb), fun b hb => ?_, k5.trans k6 (fun y hy hm => (far y hm).2.2.2)⟩, by omega⟩
      rcases gr.1 b hb with hh | hh
      · exact far b hh
      · have := k5.size
        exact ⟨fun hm => by have := rd5.lt b (.inl hm); omega, fun hm => by have := rd5.lt b (.inr hm); omega, fun hm => by have := rw5.lt b (.inl hm); omega, by omega⟩
    · refine fuse_spec rc5 (k := 0) (by unfold InI; omega) ?_
      intro h6 r6 k6 s6
      have k6' : Keep muc' h5 h6 := k6.mono (fun y _ hy => by
        have : y = pc := hy
        rw [this]; exact rc5.own)
      obtain ⟨b1, b2, b3⟩ := alc
      have ef : fuse mc 0 = { mc with st := 1, fuse := 0 } := by unfold fuse; rw [if_neg (by omega), if_neg (by omega)]
      rw [ef] at r6
      refine flush_spec r6 (by show mc.c.length ≤ _; omega) ?_
      intro h7 r7 k7
      have efl : flush { mc with st := 1, fuse := 0 } = (50, { mc with st := 2, fuse := 0 }) := rfl
      rw [efl] at r7
      have k57 := k6'.trans' k7
      have rd7 := rd5.keep k57 (fun b hb hm => (far b hm).1 hb) (fun b hb hm => (far b hm).2.1 hb)
      have rw7 := rw5.keep k57 (fun b hb hm => (far b hm).2.2.1 hb) (fun b hb hm => (far b hm).2.1 hb)
      have k07 := k5.trans k57 (fun y hy hm => (far y hm).2.2.2)
      refine LoopT.intro (fun s h' => 0 ≤ s ∧ s ≤ 8 ∧ Keep (fun _ => False) h7 h') (fun s _ => (8 - s).toNat) ⟨by omega, by omega, .refl _ _⟩ ?_
      rintro s h8 ⟨u1, u2, k8⟩
      have rd8 := rd7.keep k8 (fun _ _ h => h) (fun _ _ h => h)
      have rw8 := rw7.keep k8 (fun _ _ h => h) (fun _ _ h => h)
      have rc8 := r7.keep k8 (fun _ _ h => h) (fun _ _ h => h)
      refine cnd_dec (fun hs => ?_) (fun hs => ?_)
      · refine withJ.inl ?_
        refine same_reads rd8 rw8 hcl a1 a2 u1 hs ?_
        intro h9 k9
        refine cnd_f rfl ?_
        show (0 ≤ w64 (s + 1) ∧ _) ∧ _
        rw [w64_id (x := s + 1) (by omega) (by omega)]
        exact ⟨⟨by omega, by omega, k8.trans' k9⟩, by omega⟩
      · refine withJ.inl ?_
        refine dead_spec rc8 ?_
        refine cnd_t rfl ?_
        refine dead_spec rd8 ?_
        refine cnd_t (by simp [a1]) ?_
        refine pending_spec rd8 (pending_spec rw8 ?_)
        refine cnd_t (by simp) ?_
        refine awake_spec fun h' hk => hR h' ?_
        have kk := (k07.trans k8 (fun _ _ h => h.elim)).trans hk (fun _ _ h => h.elim)
        exact ⟨kk.size, fun b hb _ => kk.same b hb (by omega)⟩

end Disk
end Go.Proofs.Ytmmoilenemogoaa
