/- Plain laws of a log, where frames of older epochs may lie in its sectors: what was appended is found, through failures and crashes. -/
import Derived.Test.YtkgocfaajfaidaaKMidC
namespace Go.Proofs.Ytkgocfaajfaidaa
open Go D
set_option linter.unusedVariables false
set_option linter.unusedSimpArgs false
namespace Wal
open Disk Enc Hash Snap

def Lg.step (L : Lg) (k : Nat) : Lg := { L with pos := L.pos + k, nx := L.nx + 1 }

/-- frames that lie one behind the other, from L to L' -/
inductive Chain (m : M) : Lg → List (List ByteArray) → Lg → Prop
  | nil (L : Lg) : Chain m L [] L
  | cons {L L' : Lg} {rs : List ByteArray} {k : Nat} {fs : List (List ByteArray)} (h : readM m L = some (rs, k)) (hc : Chain m (L.step k) fs L') : Chain m L (rs :: fs) L'

theorem readM_k {m : M} {L : Lg} {rs : List ByteArray} {k : Nat} (h : readM m L = some (rs, k)) : 1 ≤ k ∧ L.pos + (k : Int) ≤ L.n ∧ k = secs (many m L) := by
  unfold readM at h
  split at h
  · cases h
  · rename_i h1
    split at h
    · cases h
    · rename_i h2
      split at h
      · have : k = secs (many m L) := by
          cases hu : unpackL (payL m L) with
          | none => rw [hu] at h; cases h
          | some r => rw [hu] at h; simp at h; exact h.2.symm
        refine ⟨?_, ?_, this⟩
        · rw [this]; exact secs_pos _
        · rw [this]; unfold secs; omega
      · cases h

theorem Chain.facts {m : M} {L L' : Lg} {fs : List (List ByteArray)} (h : Chain m L fs L') : L'.fr = L.fr ∧ L'.n = L.n ∧ L'.ep = L.ep ∧ L'.nx = L.nx + fs.length ∧ L.pos + fs.length ≤ L'.pos ∧ (L.pos ≤ L.n → L'.pos ≤ L.n) ∧ L'.dead = L.dead := by
  induction h with
  | nil L => exact ⟨rfl, rfl, rfl, rfl, by simp, fun h => h, rfl⟩
  | @cons L L' rs k fs h _ ih =>
    obtain ⟨h1, h2, h3, h4, h5, h6, h7⟩ := ih
    obtain ⟨q1, q2, _⟩ := readM_k h
    have e5 : (L.step k).pos = L.pos + k := rfl
    have e6 : (L.step k).n = L.n := rfl
    rw [e5, e6] at h6
    refine ⟨h1, h2, h3, ?_, ?_, fun _ => h6 q2, h7⟩
    · rw [h4, List.length_cons]
      show L.nx + 1 + fs.length = _
      omega
    · rw [e5] at h5
      rw [List.length_cons]
      omega

theorem Chain.snoc {m : M} {L L' : Lg} {fs : List (List ByteArray)} (h : Chain m L fs L') {rs : List ByteArray} {k : Nat} (hr : readM m L' = some (rs, k)) : Chain m L (fs ++ [rs]) (L'.step k) := by
  induction h with
  | nil L => exact .cons hr (.nil _)
  | cons h _ ih => exact .cons h (ih hr)

theorem rdC_congr {m m' : M} {p : Int} {k : Nat} (h : ∀ i, p ≤ i → i < p + k → readAt m' i = readAt m i) : rdC m' p k = rdC m p k := by
  induction k with
  | zero => rfl
  | succ k ih =>
    show rdC m' p k ++ _ = rdC m p k ++ _
    rw [ih (fun i h1 h2 => h i h1 (by omega)), h (p + k) (by omega) (by omega)]

theorem readM_congr {m m' : M} {L : Lg} {rs : List ByteArray} {k : Nat} (hr : readM m L = some (rs, k)) (h : ∀ i, L.fr + L.pos ≤ i → i < L.fr + L.pos + k → readAt m' i = readAt m i) : readM m' L = some (rs, k) := by
  obtain ⟨q1, q2, q3⟩ := readM_k hr
  have e1 : many m' L = many m L := by unfold many; rw [h _ (by omega) (by omega)]
  have e2 : rdC m' (L.fr + L.pos) (secs (many m L)) = rdC m (L.fr + L.pos) (secs (many m L)) := rdC_congr (fun i h1 h2 => h i h1 (by rw [q3]; exact h2))
  have e3 : payL m' L = payL m L := by unfold payL; rw [e1, e2]
  unfold readM at hr ⊢
  rw [e1, e3, e2]
  exact hr

theorem Chain.congr {m m' : M} {L L' : Lg} {fs : List (List ByteArray)} (hc : Chain m L fs L') (h : ∀ i, L.fr + L.pos ≤ i → i < L.fr + L'.pos → readAt m' i = readAt m i) : Chain m' L fs L' := by
  induction hc with
  | nil L => exact .nil L
  | @cons L L' rs k fs hr hc ih =>
    obtain ⟨f1, f2, f3, f4, f5, f6, f7⟩ := hc.facts
    have e5 : (L.step k).pos = L.pos + k := rfl
    have e6 : (L.step k).fr = L.fr := rfl
    rw [e5] at f5
    refine .cons (readM_congr hr (fun i h1 h2 => h i h1 (by omega))) (ih (fun i h1 h2 => ?_))
    rw [e5, e6] at h1
    rw [e6] at h2
    exact h i (by omega) h2

theorem open_chain {m : M} {L L' : Lg} {fs : List (List ByteArray)} (hc : Chain m L fs L') (hn : readM m L' = none) : ∀ (f : Nat) (acc : List (List ByteArray)), L.n - L.pos < f → openF m f L acc = (L', acc ++ fs) := by
  induction hc with
  | nil L =>
    intro f acc hf
    rw [List.append_nil]
    cases f with
    | zero => rfl
    | succ f => unfold openF; rw [hn]
  | @cons L L' rs k fs hr hc ih =>
    intro f acc hf
    obtain ⟨q1, q2, _⟩ := readM_k hr
    cases f with
    | zero => omega
    | succ f =>
      unfold openF
      rw [hr]
      show openF m f (L.step k) (acc ++ [rs]) = _
      rw [ih hn f (acc ++ [rs]) (by show L.n - (L.pos + k) < (f : Int); omega), List.append_assoc]
      rfl

/-- where a log ends: there are noughts, or the head of a frame of an older epoch, or nothing is left -/
def hd8 (m : M) (p : Int) : List UInt8 := ((readAt m p).data.toList.drop 8).take 8
def End (m : M) (L : Lg) : Prop := L.pos < L.n → readAt m (L.fr + L.pos) = noughts 256 ∨ (L.pos = 0 ∧ ∃ e', e' < L.ep ∧ hd8 m (L.fr + L.pos) = p64 e')
theorem p64_ne {e : Nat} (h0 : 0 < e) (h1 : e < 18446744073709551616) : p64 e ≠ List.replicate 8 0 := fun h => by
  have := g64_p64 h1
  rw [h] at this
  have h2 : g64 (List.replicate 8 (0 : UInt8)) = 0 := rfl
  omega
theorem frame_head8 (e x : Nat) (pl : List UInt8) : ((frameF e x pl).take 24).drop 8 = p64 e ++ p64 x := by
  have e1 : frameF e x pl = (four pl.length ++ be4W (crcF (bodyL e x pl))) ++ ((p64 e ++ p64 x) ++ (pl ++ List.replicate (256 * secs pl.length - (24 + pl.length)) 0)) := by
    simp [frameF, frameL, bodyL]
  have l1 : (four pl.length ++ be4W (crcF (bodyL e x pl))).length = 8 := rfl
  have l2 : (p64 e ++ p64 x).length = 16 := by rw [List.length_append, p64_length, p64_length]
  rw [List.drop_take, e1, List.drop_left' l1, List.take_left' (by rw [l2])]
theorem rdC_head (m : M) (p : Int) : ∀ k, 1 ≤ k → ∃ r, rdC m p k = (readAt m p).data.toList ++ r
  | 0, h => by omega
  | 1, _ => ⟨[], by show [] ++ (readAt m (p + ((0 : Nat) : Int))).data.toList = _; rw [show p + ((0 : Nat) : Int) = p by omega]; simp⟩
  | k + 2, _ => by
    obtain ⟨r, hr⟩ := rdC_head m p (k + 1) (by omega)
    refine ⟨r ++ (readAt m (p + ((k + 1 : Nat) : Int))).data.toList, ?_⟩
    show rdC m p (k + 1) ++ _ = _
    rw [hr, List.append_assoc]
theorem hd8_rdC {m : M} {p : Int} {k : Nat} (hk : 1 ≤ k) (hl : 16 ≤ (readAt m p).data.toList.length) : (((rdC m p k).take 24).drop 8).take 8 = hd8 m p := by
  obtain ⟨r, hr⟩ := rdC_head m p k hk
  unfold hd8
  rw [hr, List.drop_take, List.take_take, show min 8 (24 - 8) = 8 by rfl, List.drop_append_of_le_length (by omega), List.take_append_of_le_length (by rw [List.length_drop]; omega)]
theorem crc00 : be4W (crcF (bodyL 0 0 [])) ≠ [0, 0, 0, 0] := by decide +kernel
theorem p64_inj {a b : Nat} (ha : a < 18446744073709551616) (hb : b < 18446744073709551616) (h : p64 a = p64 b) : a = b := by
  have := congrArg g64 h
  rw [g64_p64 ha, g64_p64 hb] at this
  exact this
theorem end_none {m : M} {L : Lg} (h : End m L) (h1 : L.ep < 18446744073709551616) (h2 : L.nx < 18446744073709551616) : readM m L = none := by
  unfold readM
  by_cases hn : L.n ≤ L.pos
  · rw [if_pos hn]
  · rw [if_neg hn]
    by_cases hc : (L.n - L.pos) * 256 - 24 < (many m L : Int)
    · rw [if_pos hc]
    · rw [if_neg hc, if_neg]
      intro he
      rcases h (by omega) with hz | ⟨_, e', h3, h4⟩
      · have hm : many m L = 0 := by unfold many; rw [hz]; rfl
        have hs : secs (many m L) = 1 := by rw [hm]; rfl
        have hp : payL m L = [] := by unfold payL; rw [hm]; rfl
        have hr : (rdC m (L.fr + L.pos) 1).take 24 = List.replicate 24 0 := by
          show ([] ++ (readAt m (L.fr + L.pos + ((0 : Nat) : Int))).data.toList).take 24 = _
          rw [show L.fr + L.pos + ((0 : Nat) : Int) = L.fr + L.pos by omega, hz]
          rfl
        rw [hs, hr, hp] at he
        have h8 := congrArg (fun l : List UInt8 => (l.drop 8).take 8) he
        have h16 := congrArg (fun l : List UInt8 => l.drop 16) he
        have h4 := congrArg (fun l : List UInt8 => (l.drop 4).take 4) he
        rw [frame_head8, List.take_left' (p64_length _)] at h8
        have e0 : L.ep = 0 := p64_inj h1 (by omega) (h8.trans rfl)
        have hx : p64 L.nx = List.replicate 8 0 := by
          have e : ((frameF L.ep L.nx []).take 24).drop 16 = p64 L.nx := by
            have := frame_head8 L.ep L.nx []
            have h3 := congrArg (fun l : List UInt8 => l.drop 8) this
            simp only [List.drop_drop] at h3
            rw [List.drop_left' (p64_length _)] at h3
            exact h3
          rw [e] at h16
          exact h16.trans rfl
        have x0 : L.nx = 0 := p64_inj h2 (by omega) (hx.trans rfl)
        rw [e0, x0] at h4
        exact crc00 h4
      · have h5 := congrArg (fun l : List UInt8 => (l.drop 8).take 8) he
        rw [frame_head8, List.take_left' (p64_length _)] at h5
        have hl : 16 ≤ (readAt m (L.fr + L.pos)).data.toList.length := by
          have := congrArg List.length h4
          unfold hd8 at this
          rw [p64_length, List.length_take, List.length_drop] at this
          omega
        rw [hd8_rdC (secs_pos _) hl, h4] at h5
        have := p64_inj h1 (by omega) h5
        omega

/-- a log that holds fs -/
structure Holds (m : M) (fr n : Int) (e : Nat) (L : Lg) (fs : List (List ByteArray)) : Prop where
  c : m.c = []
  ch : Chain m (lg0 fr n e) fs L
  en : End m L
  reg : 0 ≤ fr ∧ 1 ≤ n ∧ fr + n ≤ m.l.length
  ep : e < 18446744073709551616
  nb : n ≤ 1000000

theorem Holds.open {m : M} {fr n : Int} {e : Nat} {L : Lg} {fs : List (List ByteArray)} (h : Holds m fr n e L fs) : openM m fr n e = (L, fs) := by
  obtain ⟨f1, f2, f3, f4, f5, f6, f7⟩ := h.ch.facts
  have hnb := h.nb
  have hp0 : (lg0 fr n e).pos = 0 := rfl
  have hn0 : (lg0 fr n e).n = n := rfl
  have hx0 : (lg0 fr n e).nx = 0 := rfl
  have hle := f6 (by have := h.reg.2.1; omega)
  have := open_chain h.ch (end_none h.en (by rw [f3]; exact h.ep) (by rw [f4]; omega)) (n.toNat + 1) [] (by show n - 0 < _; have := h.reg.2.1; omega)
  unfold openM
  rw [this, List.nil_append]

theorem Holds.facts {m : M} {fr n : Int} {e : Nat} {L : Lg} {fs : List (List ByteArray)} (h : Holds m fr n e L fs) : L.fr = fr ∧ L.n = n ∧ L.ep = e ∧ L.nx = fs.length ∧ (fs.length : Int) ≤ L.pos ∧ L.pos ≤ n ∧ L.dead = false := by
  obtain ⟨f1, f2, f3, f4, f5, f6, f7⟩ := h.ch.facts
  refine ⟨f1, f2, f3, ?_, ?_, f6 (by show (0 : Int) ≤ n; have := h.reg.2.1; omega), f7⟩
  · rw [f4]; show 0 + fs.length = _; omega
  · have : (lg0 fr n e).pos = 0 := rfl
    omega

theorem Holds.view {m m' : M} {fr n : Int} {e : Nat} {L : Lg} {fs : List (List ByteArray)} (h : Holds m fr n e L fs) (hc : m'.c = []) (hl : m'.l.length = m.l.length) (hv : ∀ i, fr ≤ i → i < fr + L.pos + 1 → i < fr + n → readAt m' i = readAt m i) : Holds m' fr n e L fs := by
  obtain ⟨f1, f2, f3, f4, f5, f6, f7⟩ := h.facts
  refine ⟨hc, h.ch.congr (fun i h1 h2 => hv i (by have : (lg0 fr n e).fr = fr := rfl; have : (lg0 fr n e).pos = 0 := rfl; omega) (by have : (lg0 fr n e).fr = fr := rfl; omega) (by have : (lg0 fr n e).fr = fr := rfl; omega)), fun hlt => ?_, ⟨h.reg.1, h.reg.2.1, by rw [hl]; exact h.reg.2.2⟩, h.ep, h.nb⟩
  have ev : readAt m' (L.fr + L.pos) = readAt m (L.fr + L.pos) := by rw [f1, hv _ (by omega) (by omega) (by omega)]
  have := h.en hlt
  unfold hd8 at this ⊢
  rw [ev]; exact this

theorem blank_holds {m : M} {fr n : Int} {e : Nat} (hb : ∀ i, readAt m i = noughts 256) (hc : m.c = []) (hr : 0 ≤ fr ∧ 1 ≤ n ∧ fr + n ≤ m.l.length) (he : e < 18446744073709551616) (hnb : n ≤ 1000000) : Holds m fr n e (lg0 fr n e) [] :=
  ⟨hc, .nil _, fun _ => .inl (hb _), hr, he, hnb⟩

/-! ### one frame more -/
theorem lk_fws (P : Int) (F : List UInt8) (i : Int) (z : ByteArray) : ∀ k : Nat, 1 ≤ k → lk (fws P F k) i z = if P < i ∧ i < P + k then chunk F (i - P).toNat else z
  | 0, h => by omega
  | 1, _ => by rw [if_neg (by omega)]; rfl
  | k + 2, _ => by
    rw [fws_succ P F (k + 1) (by omega), lk_append, lk_one, lk_fws P F i z (k + 1) (by omega)]
    by_cases e : P + ((k + 1 : Nat) : Int) = i
    · rw [if_pos e, if_pos (by omega)]
      have : (i - P).toNat = k + 1 := by omega
      rw [this]
    · rw [if_neg e]
      by_cases e2 : P < i ∧ i < P + ((k + 1 : Nat) : Int)
      · rw [if_pos e2, if_pos (by omega)]
      · rw [if_neg e2, if_neg (by omega)]

theorem chunks_join (F : List UInt8) : ∀ k : Nat, ((List.range k).flatMap fun i => (F.drop (256 * i)).take 256) = F.take (256 * k)
  | 0 => by simp
  | k + 1 => by
    rw [List.range_succ, List.flatMap_append, chunks_join F k, List.flatMap_singleton, show 256 * (k + 1) = 256 * k + 256 by omega, List.take_add]

/-- a frame that lies there is read -/
theorem read_frame {m : M} {L : Lg} {rs : List ByteArray} (hr : 0 ≤ L.pos ∧ L.pos + (secs (packL rs).length : Int) ≤ L.n) (hn : L.n ≤ 100000)
    (hv : ∀ j : Nat, j < secs (packL rs).length → readAt m (L.fr + L.pos + (j : Int)) = chunk (frameF L.ep L.nx (packL rs)) j) : readM m L = some (rs, secs (packL rs).length) := by
  obtain ⟨pl, hpl⟩ : ∃ pl, pl = packL rs := ⟨_, rfl⟩
  rw [← hpl] at hr hv ⊢
  obtain ⟨F, hF⟩ : ∃ F, F = frameF L.ep L.nx pl := ⟨_, rfl⟩
  rw [← hF] at hv
  have hFl : F.length = 256 * secs pl.length := by rw [hF, frameF_length]
  have hsp := secs_pos pl.length
  have hsl := secs_le pl.length
  have c0 : (readAt m (L.fr + L.pos)).data.toList = F.take 256 := by
    have := hv 0 (by omega)
    rw [show L.fr + L.pos + ((0 : Nat) : Int) = L.fr + L.pos by omega] at this
    rw [this]
    unfold chunk
    rw [data_ofL, Nat.mul_zero, List.drop_zero]
  have eF : F = four pl.length ++ (be4W (crcF (bodyL L.ep L.nx pl)) ++ bodyL L.ep L.nx pl ++ List.replicate (256 * secs pl.length - (24 + pl.length)) 0) := by
    rw [hF]; simp [frameF, frameL]
  have hm : many m L = pl.length := by
    unfold many
    rw [c0, List.take_take, show min 4 256 = 4 by rfl, eF, List.take_left' (four_length _), g64_four (by unfold secs at hr; omega)]
  have hrd : ∀ k, k ≤ secs pl.length → rdC m (L.fr + L.pos) k = F.take (256 * k) := by
    intro k
    rw [← chunks_join]
    induction k with
    | zero => intro _; rfl
    | succ k ih =>
      intro hk
      rw [List.range_succ, List.flatMap_append, List.flatMap_singleton, ← ih (by omega)]
      show rdC m (L.fr + L.pos) k ++ _ = _
      rw [hv k (by omega)]
      unfold chunk
      rw [data_ofL]
  have hall : rdC m (L.fr + L.pos) (secs pl.length) = F := by rw [hrd _ (Nat.le_refl _), List.take_of_length_le (by omega)]
  have hpay : payL m L = pl := by
    unfold payL
    rw [hm, hall]
    have e2 : F = (four pl.length ++ be4W (crcF (bodyL L.ep L.nx pl)) ++ (p64 L.ep ++ p64 L.nx)) ++ (pl ++ List.replicate (256 * secs pl.length - (24 + pl.length)) 0) := by
      rw [hF]; simp [frameF, frameL, bodyL]
    have l2 : (four pl.length ++ be4W (crcF (bodyL L.ep L.nx pl)) ++ (p64 L.ep ++ p64 L.nx)).length = 24 := by
      rw [List.length_append, List.length_append, four_length, List.length_append, p64_length, p64_length]; rfl
    rw [e2, List.drop_left' l2, List.take_left' rfl]
  unfold readM
  rw [if_neg (by omega), hm, if_neg (by unfold secs at hr; omega), hpay, hall, if_pos (by rw [hF]), hpl, unpack_pack rs (by rw [← hpl]; unfold secs at hr; omega)]
  rfl

theorem app_holds {m m' : M} {fr n : Int} {e : Nat} {L : Lg} {fs : List (List ByteArray)} {rs : List ByteArray} (h : Holds m fr n e L fs) (hn : n ≤ 10000) (hk : L.pos + (secs (packL rs).length : Int) ≤ n) (hc : m'.c = []) (hl : m'.l.length = m.l.length)
    (hv : ∀ i : Int, 0 ≤ i → i < m.l.length → readAt m' i = newV (aws L (frameF L.ep L.nx (packL rs)) (secs (packL rs).length)) (L.fr + L.pos, chunk (frameF L.ep L.nx (packL rs)) 0) i (readAt m i)) :
    Holds m' fr n e (L.step (secs (packL rs).length)) (fs ++ [rs]) := by
  obtain ⟨f1, f2, f3, f4, f5, f6, f7⟩ := h.facts
  obtain ⟨k, hkk⟩ : ∃ k, k = secs (packL rs).length := ⟨_, rfl⟩
  obtain ⟨F, hF⟩ : ∃ F, F = frameF L.ep L.nx (packL rs) := ⟨_, rfl⟩
  have hkp : 1 ≤ k := by rw [hkk]; exact secs_pos _
  obtain ⟨r1, r2, r3⟩ := h.reg
  rw [← hkk, ← hF] at hv
  rw [← hkk] at hk ⊢
  obtain ⟨P, hP⟩ : ∃ P, P = L.fr + L.pos := ⟨_, rfl⟩
  have hv' : ∀ i : Int, 0 ≤ i → i < m.l.length → readAt m' i = if P = i then chunk F 0 else if i = P + k ∧ L.pos + k < n then noughts 256 else if P < i ∧ i < P + k then chunk F (i - P).toNat else readAt m i := by
    intro i h0 h1
    rw [hv i h0 h1]
    unfold newV aws
    rw [← hP, lk_append, lk_fws P F i _ k hkp, f2]
    show (if P = i then chunk F 0 else _) = _
    by_cases e1 : P = i
    · rw [if_pos e1, if_pos e1]
    · rw [if_neg e1, if_neg e1]
      by_cases e2 : L.pos + (k : Int) < n
      · rw [if_pos e2, lk_one]
        show (if P + (k : Int) = i then noughts 256 else _) = _
        by_cases e3 : P + (k : Int) = i
        · rw [if_pos e3, if_pos ⟨e3.symm, e2⟩]
        · rw [if_neg e3, if_neg (show ¬ (i = P + (k : Int) ∧ L.pos + (k : Int) < n) from fun hh => e3 hh.1.symm)]
      · rw [if_neg e2, lk_nil, if_neg (show ¬ (i = P + (k : Int) ∧ L.pos + (k : Int) < n) from fun hh => e2 hh.2)]
  have hread : readM m' L = some (rs, k) := by
    rw [hkk]
    refine read_frame ⟨by omega, by rw [← hkk, f2]; exact hk⟩ (by omega) (fun j hj => ?_)
    rw [← hkk] at hj
    rw [← hF, ← hP]
    by_cases e : j = 0
    · subst e
      rw [hv' _ (by omega) (by omega), if_pos (by omega)]
    · rw [hv' _ (by omega) (by omega), if_neg (by omega), if_neg (by omega), if_pos (by omega)]
      have : (P + (j : Int) - P).toNat = j := by omega
      rw [this]
  refine ⟨hc, (h.ch.congr (fun i h1 h2 => ?_)).snoc hread, fun hlt => .inl ?_, ⟨r1, r2, by rw [hl]; exact r3⟩, h.ep, h.nb⟩
  · have e1 : (lg0 fr n e).fr = fr := rfl
    have e2 : (lg0 fr n e).pos = 0 := rfl
    rw [hv' i (by omega) (by omega), if_neg (by omega), if_neg (by omega), if_neg (by omega)]
  · have e1 : (L.step k).pos = L.pos + k := rfl
    have e2 : (L.step k).fr = L.fr := rfl
    have e3 : (L.step k).n = L.n := rfl
    rw [e1, e3, f2] at hlt
    rw [e1, e2, hv' _ (by omega) (by omega), if_neg (by omega), if_pos ⟨by omega, hlt⟩]

theorem aws_mem {L : Lg} {F : List UInt8} {k : Nat} (hk : 1 ≤ k) {y : Int × ByteArray} (hy : y ∈ aws L F k) : (∃ j : Nat, 1 ≤ j ∧ j < k ∧ y = (L.fr + L.pos + (j : Int), chunk F j)) ∨ (L.pos + (k : Int) < L.n ∧ y = (L.fr + L.pos + (k : Int), noughts 256)) := by
  unfold aws at hy
  rcases List.mem_append.1 hy with h | h
  · left
    unfold fws at h
    obtain ⟨j, hj, rfl⟩ := List.mem_map.1 h
    have := List.mem_range.1 hj
    exact ⟨j + 1, by omega, by omega, by rw [show L.fr + L.pos + 1 + (j : Int) = L.fr + L.pos + ((j + 1 : Nat) : Int) by omega]⟩
  · split at h
    · rename_i hlt
      simp only [List.mem_singleton] at h
      exact .inr ⟨hlt, h⟩
    · cases h

theorem write_r (m : M) (i : Int) (s : ByteArray) : (write m i s).1 = 0 ∨ (write m i s).1 = 50 ∨ (write m i s).1 = 1 := by
  unfold write
  split
  · exact .inr (.inl rfl)
  · split
    · exact .inr (.inr rfl)
    · split
      · rcases burn_r m with h | h
        · exact .inl h
        · exact .inr (.inl h)
      · exact .inl rfl
theorem flush_r (m : M) : (flush m).1 = 0 ∨ (flush m).1 = 50 ∨ (flush m).1 = 1 := by
  unfold flush
  split
  · exact .inr (.inl rfl)
  · split
    · rcases burn_r m with h | h
      · exact .inl h
      · exact .inr (.inl h)
    · exact .inl rfl
theorem wrs_r : ∀ (ws : List (Int × ByteArray)) (m : M), (wrs ws m).1 = 0 ∨ (wrs ws m).1 = 50 ∨ (wrs ws m).1 = 1
  | [], m => .inl rfl
  | x :: ws, m => by
    have e : wrs (x :: ws) m = if (write m x.1 x.2).1 ≠ 0 then write m x.1 x.2 else wrs ws (write m x.1 x.2).2 := rfl
    rw [e]
    split
    · exact write_r _ _ _
    · exact wrs_r ws _
theorem commit_r (m : M) (ws : List (Int × ByteArray)) (x : Int × ByteArray) : (commitM m ws x).1 = 0 ∨ (commitM m ws x).1 = 50 ∨ (commitM m ws x).1 = 1 := by
  unfold commitM
  split
  · exact wrs_r _ _
  · split
    · exact flush_r _
    · split
      · exact write_r _ _ _
      · exact flush_r _

theorem write_ok {m : M} {i : Int} {s : ByteArray} (h0 : 0 ≤ i) (h1 : i < m.l.length) (h2 : s.size = 256) : (write m i s).1 = 0 ∨ (write m i s).1 = 50 := by
  unfold write
  split
  · exact .inr rfl
  · split
    · omega
    · split
      · exact burn_r m
      · exact .inl rfl
theorem flush_ok (m : M) : (flush m).1 = 0 ∨ (flush m).1 = 50 := by
  unfold flush
  split
  · exact .inr rfl
  · split
    · exact burn_r m
    · exact .inl rfl
theorem wrs_ok : ∀ (ws : List (Int × ByteArray)) (m : M), (∀ y ∈ ws, 0 ≤ y.1 ∧ y.1 < m.l.length ∧ y.2.size = 256) → (wrs ws m).1 = 0 ∨ (wrs ws m).1 = 50
  | [], m, _ => .inl rfl
  | x :: ws, m, h => by
    have e : wrs (x :: ws) m = if (write m x.1 x.2).1 ≠ 0 then write m x.1 x.2 else wrs ws (write m x.1 x.2).2 := rfl
    obtain ⟨a1, a2, a3⟩ := h x (by simp)
    rw [e]
    split
    · exact write_ok a1 a2 a3
    · exact wrs_ok ws _ (fun y hy => by rw [(write_len _ _ _).1]; exact h y (by simp [hy]))
theorem commit_ok {m : M} {ws : List (Int × ByteArray)} {x : Int × ByteArray} (hws : ∀ y ∈ ws, 0 ≤ y.1 ∧ y.1 < m.l.length ∧ y.2.size = 256) (hx : 0 ≤ x.1 ∧ x.1 < m.l.length ∧ x.2.size = 256) : (commitM m ws x).1 = 0 ∨ (commitM m ws x).1 = 50 := by
  unfold commitM
  split
  · exact wrs_ok _ _ hws
  · split
    · exact flush_ok _
    · split
      · exact write_ok hx.1 (by rw [(flush_len _).1, (wrs_len _ _).1]; exact hx.2.1) hx.2.2
      · exact flush_ok _

/-- what an Append leaves -/
theorem append_holds {m : M} {fr n : Int} {e : Nat} {L : Lg} {fs : List (List ByteArray)} (h : Holds m fr n e L fs) (hn : n ≤ 10000) (rs : List ByteArray) :
    (n < L.pos + (secs (packL rs).length : Int) → appM m L rs = (60, m, L)) ∧
    (L.pos + (secs (packL rs).length : Int) ≤ n → ((appM m L rs).1 = 0 → (appM m L rs).2.2 = L.step (secs (packL rs).length) ∧ Holds (appM m L rs).2.1 fr n e (L.step (secs (packL rs).length)) (fs ++ [rs]) ∧ (appM m L rs).2.1.l.length = m.l.length) ∧
      ((appM m L rs).1 ≠ 0 → ∀ ks, Holds (crash (appM m L rs).2.1 ks) fr n e L fs ∨ Holds (crash (appM m L rs).2.1 ks) fr n e (L.step (secs (packL rs).length)) (fs ++ [rs])) ∧
      (m.st = 0 → (appM m L rs).1 = 0 ∧ (appM m L rs).2.1.st = 0) ∧ ((appM m L rs).1 = 0 ∨ (appM m L rs).1 = 50)) := by
  obtain ⟨f1, f2, f3, f4, f5, f6, f7⟩ := h.facts
  obtain ⟨r1, r2, r3⟩ := h.reg
  refine ⟨fun hfull => ?_, fun hk => ?_⟩
  · unfold appM
    rw [f7]
    simp only [Bool.false_eq_true, if_false]
    rw [if_pos (by omega)]
  obtain ⟨k, hkk⟩ : ∃ k, k = secs (packL rs).length := ⟨_, rfl⟩
  obtain ⟨F, hF⟩ : ∃ F, F = frameF L.ep L.nx (packL rs) := ⟨_, rfl⟩
  have hkp : 1 ≤ k := by rw [hkk]; exact secs_pos _
  have hFl : F.length = 256 * k := by rw [hF, frameF_length, hkk]
  have csz : ∀ i, i < k → (chunk F i).size = 256 := fun i hi => by
    unfold chunk
    show (List.toArray _).size = 256
    rw [List.size_toArray, List.length_take, List.length_drop]
    omega
  have eA : appM m L rs = if (commitM m (aws L F k) (L.fr + L.pos, chunk F 0)).1 ≠ 0 then ((commitM m (aws L F k) (L.fr + L.pos, chunk F 0)).1, (commitM m (aws L F k) (L.fr + L.pos, chunk F 0)).2, { L with dead := true }) else (0, (commitM m (aws L F k) (L.fr + L.pos, chunk F 0)).2, L.step k) := by
    unfold appM
    rw [f7]
    simp only [Bool.false_eq_true, if_false]
    rw [← hkk, ← hF, if_neg (by omega)]
    unfold Lg.step
    rw [f7]
  rw [← hkk] at hk ⊢
  obtain ⟨cl1, _⟩ := commit_len m (aws L F k) (L.fr + L.pos, chunk F 0)
  obtain ⟨p1, p2⟩ := commit_plain h.c (ws := aws L F k) (x := (L.fr + L.pos, chunk F 0)) (fun y hy => by
    rcases aws_mem hkp hy with ⟨j, _, _, rfl⟩ | ⟨_, rfl⟩ <;> simp only <;> omega) (by simp only; omega) (by simp only; omega) (fun y hy => by
    rcases aws_mem hkp hy with ⟨j, _, _, rfl⟩ | ⟨_, rfl⟩ <;> simp only <;> omega)
  refine ⟨fun h0 => ?_, fun h0 ks => ?_, fun hst => ?_, ?_⟩
  · have hz : (commitM m (aws L F k) (L.fr + L.pos, chunk F 0)).1 = 0 := by
      rw [eA] at h0
      split at h0
      · exact h0
      · rename_i hh; exact Classical.not_not.1 hh
    rw [eA, if_neg (Classical.not_not.2 hz)]
    obtain ⟨q1, q2⟩ := p1 hz
    refine ⟨rfl, ?_, cl1⟩
    have := app_holds (rs := rs) h hn (by rw [← hkk]; exact hk) q1 cl1 (by rw [← hkk, ← hF]; exact q2)
    rw [← hkk] at this
    exact this
  · have hz : (commitM m (aws L F k) (L.fr + L.pos, chunk F 0)).1 ≠ 0 := by
      rw [eA] at h0
      split at h0
      · assumption
      · exact absurd rfl h0
    rw [eA, if_pos hz]
    obtain ⟨q1, q2⟩ := p2 hz ks
    show Holds (crash (commitM m (aws L F k) (L.fr + L.pos, chunk F 0)).2 ks) fr n e L fs ∨ Holds (crash (commitM m (aws L F k) (L.fr + L.pos, chunk F 0)).2 ks) fr n e (L.step k) (fs ++ [rs])
    have hl : (crash (commitM m (aws L F k) (L.fr + L.pos, chunk F 0)).2 ks).l.length = m.l.length := by rw [(crash_len _ _).1, cl1]
    rcases q2 with q2 | q2
    · left
      refine h.view rfl hl (fun i h1 h2 h3 => ?_)
      by_cases ei : i = L.fr + L.pos
      · rw [ei]; exact q2
      · exact q1 i (by omega) (by omega) ei (fun y hy => by
          rcases aws_mem hkp hy with ⟨j, _, _, rfl⟩ | ⟨_, rfl⟩ <;> simp only <;> omega)
    · right
      have := app_holds (rs := rs) h hn (by rw [← hkk]; exact hk) rfl hl (by rw [← hkk, ← hF]; exact q2)
      rw [← hkk] at this
      exact this
  · obtain ⟨a1, a2⟩ := commit_alive (ws := aws L F k) (x := (L.fr + L.pos, chunk F 0)) hst (fun y hy => by
      rcases aws_mem hkp hy with ⟨j, _, hj, rfl⟩ | ⟨hlt, rfl⟩
      · exact ⟨by simp only; omega, by simp only; omega, csz j hj⟩
      · exact ⟨by simp only; omega, by simp only; omega, noughts_size 256⟩) ⟨by simp only; omega, by simp only; omega, csz 0 (by omega)⟩
    rw [eA, if_neg (Classical.not_not.2 a1)]
    exact ⟨rfl, a2⟩
  · have hc := commit_ok (m := m) (ws := aws L F k) (x := (L.fr + L.pos, chunk F 0)) (fun y hy => by
      rcases aws_mem hkp hy with ⟨j, _, hj, rfl⟩ | ⟨hlt, rfl⟩
      · exact ⟨by simp only; omega, by simp only; omega, csz j hj⟩
      · exact ⟨by simp only; omega, by simp only; omega, noughts_size 256⟩) ⟨by simp only; omega, by simp only; omega, csz 0 (by omega)⟩
    rw [eA]
    split
    · exact hc
    · exact .inl rfl


/-- the same sectors, for a log of the next epoch: nothing is there -/
theorem holds_next {m : M} {fr n : Int} {e : Nat} {L : Lg} {fs : List (List ByteArray)} (h : Holds m fr n e L fs) (he : e + 1 < 18446744073709551616) (hz : (readAt m fr).size = 256) : Holds m fr n (e + 1) (lg0 fr n (e + 1)) [] := by
  refine ⟨h.c, .nil _, fun _ => ?_, h.reg, he, h.nb⟩
  have e0 : (lg0 fr n (e + 1)).fr + (lg0 fr n (e + 1)).pos = fr := by show fr + 0 = fr; omega
  rw [e0]
  have hch := h.ch
  have hen := h.en
  cases hch with
  | nil =>
    have e1 : (lg0 fr n e).fr + (lg0 fr n e).pos = fr := by show fr + 0 = fr; omega
    have hlt : (lg0 fr n e).pos < (lg0 fr n e).n := by show 0 < n; have := h.reg.2.1; omega
    have := hen hlt
    rw [e1] at this
    rcases this with q | ⟨_, e', q1, q2⟩
    · exact .inl q
    · exact .inr ⟨rfl, e', Nat.lt_succ_of_lt q1, q2⟩
  | @cons _ _ rs k fs hr hc =>
    right
    refine ⟨rfl, e, Nat.lt_succ_self e, ?_⟩
    unfold readM at hr
    have e1 : (lg0 fr n e).fr + (lg0 fr n e).pos = fr := by show fr + 0 = fr; omega
    split at hr
    · cases hr
    · split at hr
      · cases hr
      · split at hr
        · rename_i hf
          rw [e1] at hf
          have h5 := congrArg (fun l : List UInt8 => (l.drop 8).take 8) hf
          rw [frame_head8, List.take_left' (p64_length _)] at h5
          have hl : 16 ≤ (readAt m fr).data.toList.length := by
            have e : (readAt m fr).data.toList.length = 256 := hz
            omega
          rw [hd8_rdC (secs_pos _) hl] at h5
          exact h5.symm
        · cases hr

/-- what an Append leaves alone -/
theorem append_far {m : M} {fr n : Int} {e : Nat} {L : Lg} {fs : List (List ByteArray)} (h : Holds m fr n e L fs) (hn : n ≤ 10000) (rs : List ByteArray) (hk : L.pos + (secs (packL rs).length : Int) ≤ n) {i : Int} (h0 : 0 ≤ i) (h1 : i < m.l.length) (hi : i < fr ∨ fr + n ≤ i) :
    ((appM m L rs).1 = 0 → readAt (appM m L rs).2.1 i = readAt m i) ∧ ((appM m L rs).1 ≠ 0 → ∀ ks, readAt (crash (appM m L rs).2.1 ks) i = readAt m i) := by
  obtain ⟨f1, f2, f3, f4, f5, f6, f7⟩ := h.facts
  obtain ⟨r1, r2, r3⟩ := h.reg
  obtain ⟨k, hkk⟩ : ∃ k, k = secs (packL rs).length := ⟨_, rfl⟩
  obtain ⟨F, hF⟩ : ∃ F, F = frameF L.ep L.nx (packL rs) := ⟨_, rfl⟩
  have hkp : 1 ≤ k := by rw [hkk]; exact secs_pos _
  have eA : appM m L rs = if (commitM m (aws L F k) (L.fr + L.pos, chunk F 0)).1 ≠ 0 then ((commitM m (aws L F k) (L.fr + L.pos, chunk F 0)).1, (commitM m (aws L F k) (L.fr + L.pos, chunk F 0)).2, { L with dead := true }) else (0, (commitM m (aws L F k) (L.fr + L.pos, chunk F 0)).2, L.step k) := by
    unfold appM
    rw [f7]
    simp only [Bool.false_eq_true, if_false]
    rw [← hkk, ← hF, if_neg (by omega)]
    unfold Lg.step
    rw [f7]
  rw [← hkk] at hk
  obtain ⟨p1, p2⟩ := commit_plain h.c (ws := aws L F k) (x := (L.fr + L.pos, chunk F 0)) (fun y hy => by
    rcases aws_mem hkp hy with ⟨j, _, _, rfl⟩ | ⟨_, rfl⟩ <;> simp only <;> omega) (by simp only; omega) (by simp only; omega) (fun y hy => by
    rcases aws_mem hkp hy with ⟨j, _, _, rfl⟩ | ⟨_, rfl⟩ <;> simp only <;> omega)
  have far : ∀ y ∈ aws L F k, y.1 ≠ i := fun y hy => by
    rcases aws_mem hkp hy with ⟨j, _, _, rfl⟩ | ⟨_, rfl⟩ <;> simp only <;> omega
  have nx : i ≠ L.fr + L.pos := by omega
  have lkf : ∀ (ws : List (Int × ByteArray)) (z : ByteArray), (∀ y ∈ ws, y.1 ≠ i) → lk ws i z = z := by
    intro ws
    induction ws with
    | nil => intro z _; rfl
    | cons y ws ih =>
      intro z hy
      show lk ws i (if y.1 = i then y.2 else z) = z
      rw [if_neg (hy y (by simp)), ih _ (fun w hw => hy w (by simp [hw]))]
  refine ⟨fun hz => ?_, fun hz ks => ?_⟩
  · have hz' : (commitM m (aws L F k) (L.fr + L.pos, chunk F 0)).1 = 0 := by
      rw [eA] at hz
      split at hz
      · exact hz
      · rename_i hh; exact Classical.not_not.1 hh
    rw [eA, if_neg (Classical.not_not.2 hz')]
    rw [(p1 hz').2 i h0 h1]
    unfold newV
    rw [if_neg (by simp only; omega), lkf _ _ far]
  · have hz' : (commitM m (aws L F k) (L.fr + L.pos, chunk F 0)).1 ≠ 0 := by
      rw [eA] at hz
      split at hz
      · assumption
      · exact absurd rfl hz
    rw [eA, if_pos hz']
    exact (p2 hz' ks).1 i h0 h1 nx far
end Wal
end Go.Proofs.Ytkgocfaajfaidaa
