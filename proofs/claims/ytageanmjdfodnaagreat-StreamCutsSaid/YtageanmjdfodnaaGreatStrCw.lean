/- StreamCuts: the walk. -/
import Derived.Test.YtageanmjdfodnaaGreatStrCu
import Derived.Outline
namespace Go.Proofs.YtageanmjdfodnaaGreat
open Go.RowKit Go.Cx Go.Maps Go.ChangeShapes Go.WideShapes Go.ChangeAt

theorem umod (x : Int) (k : Nat) (h0 : 0 < k) (hk : k ≤ 4294967296) : ∃ a : Nat, wrap64 ((IntKind.u64.wrap x).tmod (k : Int)) = (a : Int) ∧ a < k := by
  rw [IntKind.wrap_u64]
  have h1 : 0 ≤ x % 18446744073709551616 := Int.emod_nonneg _ (by omega)
  rw [Int.tmod_eq_emod_of_nonneg h1]
  have h2 : 0 ≤ (x % 18446744073709551616) % (k : Int) := Int.emod_nonneg _ (by omega)
  have h3 : (x % 18446744073709551616) % (k : Int) < k := Int.emod_lt_of_pos _ (by omega)
  refine ⟨((x % 18446744073709551616) % (k : Int)).toNat, ?_, by omega⟩
  generalize (x % 18446744073709551616) % (k : Int) = z at *
  unfold wrap64
  omega
/-- what the first loop has -/
structure CuOne (w : World) (http : Bool) (k : Nat) (A7 : Option Addr) (n7 c7 : Nat) (ys : List (List Nat × Bool)) (wr : World) : Prop where
  all : wr.ownsRow w.heap.size 5 1 (.slice A7 n7 c7) n7 (byts (ys.map (encS http)).flatten)
  n7 : n7 ≤ k * 4000
  small : ∀ y ∈ ys, y.1.length ≤ 200
  bytes : ∀ y ∈ ys, ∀ b ∈ y.1, b < 256
  len : ys.length = k
  upd : Upd Nix w wr
theorem CuOne.go {w : World} {http : Bool} {k : Nat} {A7 : Option Addr} {n7 c7 : Nat} {ys : List (List Nat × Bool)} {wr w' : World} (h : CuOne w http k A7 n7 c7 ys wr) (k1 : Upd Nix wr w') : CuOne w http k A7 n7 c7 ys w' :=
  ⟨own_upd' h.all k1 fun _ _ h => h, h.n7, h.small, h.bytes, h.len, h.upd.trans k1 fun _ _ h => h⟩
theorem CuOne.push {w : World} {http : Bool} {k : Nat} {A7 : Option Addr} {n7 c7 : Nat} {ys : List (List Nat × Bool)} {wr w' : World} {A8 : Option Addr} {c8 m : Nat} {y : List Nat × Bool} (h : CuOne w http k A7 n7 c7 ys wr) (hm : (encS http y).length = m) (hs : y.1.length ≤ 200) (hb : ∀ b ∈ y.1, b < 256)
    (hown : w'.ownsRow w.heap.size 5 1 (.slice A8 (n7 + m) c8) (n7 + m) (byts (ys.map (encS http)).flatten ++ byts (encS http y))) (hg : wr.grownBy w' (Value.slice A7 n7 c7).ownBlock) : CuOne w http (k + 1) A8 (n7 + m) c8 (ys ++ [y]) w' := by
  have hl := encS_long (http := http) hs
  have h7 := h.n7
  refine ⟨?_, by omega, fun z hz => ?_, fun z hz => ?_, by rw [List.length_append, h.len]; rfl, h.upd.grown hg fun b hb hlt => ?_⟩
  · rw [List.map_append, List.flatten_append]
    simp only [List.map_cons, List.map_nil, List.flatten_cons, List.flatten_nil, List.append_nil]
    rw [byts, List.map_append]
    exact hown
  · rcases List.mem_append.1 hz with hz | hz
    · exact h.small z hz
    · simp only [List.mem_singleton] at hz
      subst hz
      exact hs
  · rcases List.mem_append.1 hz with hz | hz
    · exact h.bytes z hz
    · simp only [List.mem_singleton] at hz
      subst hz
      exact hb
  · have := own_ge h.all b hb
    omega
theorem SInner.no_frame {w : World} {base b : Nat} {v : SV} {σ : SS} {cs : Array Value} (h : SInner w base v σ) (hb : w.heap[b]? = some (.cells cs 65 (0, 0))) : ¬ v.foot b := by
  have hb : Blk w b 65 cs := hb
  match v, σ, h with
  | .fr pr bv, .fr l, h =>
    have h : PfR w base pr bv l := h
    rintro (rfl | hv)
    · exact Blk.ne hb h.blk (by decide) rfl
    · exact lies_ne h.buf hb (by decide) hv
  | .ht qb rb bv body kv, .ht l bd ks, h =>
    have h1 : RdW w base rb bv l body := h.1
    rintro ((rfl | hb2 | ⟨x, hx, hb2⟩) | (rfl | hv))
    · exact Blk.ne hb h1.blk (by decide) rfl
    · exact lies_ne h1.buf hb (by decide) hb2
    · exact (h1.bd x hx).1.not_blk hb (by decide) (by decide) (by decide) hb2
    · exact Blk.ne hb h.2.2.blk (by decide) rfl
    · exact own_ne_blk' h.2.2.own hb (by decide) hv
theorem framesP_count : ∀ (k : Nat) (z : List Nat), z.length < k → (framesP z).1.length ≤ z.length
  | 0, _, h => by omega
  | k + 1, z, h => by
    rw [framesP_eq]
    cases hs : (sizeP z).2 with
    | false => simp
    | true =>
      have h2 := sizeP_two z hs
      have h3 := framesP_count k (z.drop (sizeP z).1) (by rw [List.length_drop]; omega)
      rw [List.length_drop] at h3
      simp only [if_true, List.length_cons]
      omega
theorem FedS.count {http : Bool} {σ : SS} {p : List Nat} {frs : List Fr} (h : FedS http σ p frs) : frs.length ≤ p.length + 1 := by
  cases σ with
  | fr l =>
    obtain ⟨rfl, rfl, rfl⟩ := h
    rw [List.length_map]
    have := framesP_count _ p (Nat.lt_succ_self _)
    omega
  | ht l bd ks =>
    obtain ⟨rfl, rs, hf, rfl, rfl⟩ := h
    rw [List.length_map]
    exact hf.count
/-- what the second loop has: w2, a world ahead of the bytes; w5, one behind what is wanted -/
structure CuInv (w w2 w5 : World) (B2 sb : Nat) (http : Bool) (AL : List Nat) (Aw : Option Addr) (cw : Nat) (fsw : List FrV) (A : Option Addr) (n c : Nat) (rest : List Nat) (Ag : Option Addr) (gn cg : Nat) (gfs : List FrV) (vk : SV) (σ : SS) (p : List Nat) (frs : List Fr) (wr : World) : Prop where
  st : StAt wr B2 sb vk σ
  fed : FedS http σ p frs
  pr : p ++ rest = AL
  rl : rest.length = n
  buf : Lies wr w2.heap.size 5 (.slice A n c) n (byts rest)
  bl : ∀ b, (Value.slice A n c).ownBlock = some b → b < w5.heap.size
  got : wr.ownsRow w5.heap.size 65 2 (.slice Ag gn cg) gn ((gfs.map FrV.cells).flatten)
  gl : gfs.length = gn
  rows : ∀ f ∈ gfs, (wr.ownsRow w5.heap.size 5 1 f.row.val f.row.n (byts f.row.l) ∧ f.row.n ≤ f.row.c ∧ ∀ b ∈ f.row.l, b < 256) ∧ ∀ b, f.row.val.ownBlock = some b → ¬ SFoot sb vk b
  said : gfs.map FrV.said = frs
  want : FrsOwn w2.heap.size Aw cw fsw wr
  wl : (∀ b, (Value.slice Aw fsw.length cw).ownBlock = some b → b < w5.heap.size) ∧ ∀ f ∈ fsw, ∀ b, f.row.val.ownBlock = some b → b < w5.heap.size
  foot : ∀ b, SFoot sb vk b → b < w5.heap.size → b < w2.heap.size
  size : w2.heap.size ≤ w5.heap.size ∧ w5.heap.size ≤ wr.heap.size ∧ w.heap.size ≤ B2 ∧ B2 ≤ w2.heap.size
  bel : Below w.heap.size w wr
section
variable {w w2 w5 : World} {B2 sb : Nat} {http : Bool} {AL : List Nat} {Aw : Option Addr} {cw : Nat} {fsw : List FrV} {A : Option Addr} {n c : Nat} {rest : List Nat} {Ag : Option Addr} {gn cg : Nat} {gfs : List FrV} {vk : SV} {σ : SS} {p : List Nat} {frs : List Fr} {wr : World}
/-- behind Feed of the first m bytes, and what it told put behind the rest -/
theorem CuInv.step (h : CuInv w w2 w5 B2 sb http AL Aw cw fsw A n c rest Ag gn cg gfs vk σ p frs wr) {m q : Nat} {A8 Ag' : Option Addr} {c8 cg' : Nat} {fs : List FrV} {v' : SV} {w6 w8 : World} (hm : m ≤ n)
    (hfs : fs.map FrV.said = (feedS σ (rest.take m)).1) (hown : FrsOwn wr.heap.size A8 c8 fs w6) (hst : StAt w6 B2 sb v' (feedS σ (rest.take m)).2) (hu : Upd (SFoot sb vk) wr w6) (hft : ∀ b, SFoot sb v' b → b < wr.heap.size → SFoot sb vk b) (hap : ∀ f ∈ fs, ∀ b, f.row.val.ownBlock = some b → ¬ SFoot sb v' b)
    (hfed : FedS http (feedS σ (rest.take m)).2 (p ++ rest.take m) (frs ++ (feedS σ (rest.take m)).1)) (hq : fs.length = q)
    (hgot : w8.ownsRow w5.heap.size 65 2 (.slice Ag' (gn + q) cg') (gn + q) ((gfs.map FrV.cells).flatten ++ (fs.map FrV.cells).flatten)) (hg : w6.grownBy w8 (Value.slice Ag gn cg).ownBlock) :
    CuInv w w2 w5 B2 sb http AL Aw cw fsw (if c = m then A else A.map (·.add (m * 1))) (n - m) (c - m) (rest.drop m) Ag' (gn + q) cg' (gfs ++ fs) v' (feedS σ (rest.take m)).2 (p ++ rest.take m) (frs ++ (feedS σ (rest.take m)).1) w8 := by
  obtain ⟨z1, z2, z3, z4⟩ := h.size
  have hs6 := hu.size
  have hwf : ∀ b, w2.heap.size ≤ b → b < w5.heap.size → ¬ SFoot sb vk b := fun b h1 h2 h3 => by
    have := h.foot b h3 h2
    omega
  have hnew : ∀ b, w5.heap.size ≤ b → SFoot sb v' b → b < wr.heap.size → SFoot sb vk b := fun b _ h2 h3 => hft b h2 h3
  have hg5 : ∀ b, (Value.slice Ag gn cg).ownBlock = some b → w5.heap.size ≤ b := fun b hb => own_ge h.got b hb
  have hgnf : ∀ b, (Value.slice Ag gn cg).ownBlock = some b → ¬ SFoot sb vk b := fun b hb hf => by
    obtain ⟨_, cs, hcs⟩ := own_in h.got hb
    match vk, σ, h.st, hf with
    | vk, σ, hs, hf =>
      rcases hf with rfl | hf
      · exact Blk.ne (t := 65) hcs hs.blk (by decide) rfl
      · exact SInner.no_frame hs.inner hcs hf
  have got6 := own_upd' h.got hu hgnf
  have ug := upd_own hg
  have hgnf' : ∀ b, SFoot sb v' b → ¬ (Value.slice Ag gn cg).ownBlock = some b := fun b hf hb => by
    obtain ⟨_, cs, hcs⟩ := own_in got6 hb
    rcases hf with rfl | hf
    · exact Blk.ne (t := 65) hcs hst.blk (by decide) rfl
    · exact SInner.no_frame hst.inner hcs hf
  have hs8 := ug.size
  refine ⟨hst.upd ug hgnf', hfed, by rw [List.append_assoc, List.take_append_drop]; exact h.pr, by rw [List.length_drop, h.rl], ?_, ?_, ?_, by rw [List.length_append, h.gl, hq], ?_, by rw [List.map_append, h.said, hfs], ?_, h.wl, ?_, ⟨z1, by omega, z3, z4⟩, ?_⟩
  · have h1 := h.buf.upd hu (fun b hb hf => hwf b (h.buf.lt hb).2 (h.bl b hb) hf)
    have h2 := h1.upd ug (fun b hb hf => lies_ne2 h1 got6 (by decide) b hb hf)
    have h3 := h2.cut (k := m) hm
    simp only [byts, List.map_drop] at h3 ⊢
    exact h3
  · intro b hb
    rw [cutv] at hb
    exact h.bl b hb
  · rw [List.map_append, List.flatten_append]
    exact hgot
  · intro f hf
    rcases List.mem_append.1 hf with hf | hf
    · obtain ⟨⟨r1, r2⟩, r3⟩ := h.rows f hf
      have e6 := own_upd' r1 hu (fun b hb => r3 b hb)
      refine ⟨⟨own_upd' e6 ug fun b hb hb2 => own_ne2 e6 got6 (by decide) b hb hb2, r2⟩, fun b hb hfo => ?_⟩
      exact r3 b hb (hft b hfo (own_in r1 hb).1)
    · have r := hown.rows f hf
      refine ⟨⟨own_dn (own_upd' r.1 ug fun b hb hb2 => own_ne2 r.1 got6 (by decide) b hb hb2) z2, r.2⟩, hap f hf⟩
  · have h1 := h.want.upd hu (fun b hb hf => hwf b (own_ge h.want.out b hb) (h.wl.1 b hb) hf) (fun f hf b hb hfo => hwf b (own_ge (h.want.rows f hf).1 b hb) (h.wl.2 f hf b hb) hfo)
    exact h1.upd ug (fun b hb hf => by have := h.wl.1 b hb; have := hg5 b hf; omega) (fun f hf b hb hfo => by have := h.wl.2 f hf b hb; have := hg5 b hfo; omega)
  · intro b hf hlt
    exact h.foot b (hft b hf (by omega)) hlt
  · have hw : w.heap.size ≤ wr.heap.size := h.bel.size
    refine (h.bel.trans (hu.below hw fun b _ hf => ?_)).trans (ug.below (by omega) fun b _ hf => ?_)
    · have := (h.st.lt b hf).2
      omega
    · have := hg5 b hf
      omega
end
set_option maxRecDepth 100000 in
set_option maxHeartbeats 12800000 in
theorem streamCuts_k (http : Bool) (x : Int) (hx : wrap64 ((IntKind.u64.wrap x).tmod 2) = ((if http then 1 else 0 : Nat) : Int)) (A0 : Option Addr) (n0 c0 : Nat) (L : List Row) (Ac : Option Addr) (mc cc : Nat) (xs : List Int) (ch : Int) (w : World) (h0 : RowsAt w w.heap.size A0 n0 c0 L) (hxr : Rd w w.heap.size 1 Ac mc (intsV xs)) (hmc : mc ≤ cc) (hcc0 : cc * Tryz.prog.bytesOf 3 ≤ reachBytes) :
    Calls Tryz.prog 3 #[.int .i64 x, .slice A0 n0 c0, .slice Ac mc cc, .int .u64 ch] w fun e w' => e = .returned (.bool true) ∧ Below w.heap.size w w' := by
  have hmc8 : mc * 8 ≤ 140737488351232 := by
    rw [show Tryz.prog.bytesOf 3 = 8 by kernel_rfl] at hcc0
    unfold reachBytes at hcc0
    omega
  clear hcc0
  obtain ⟨i0, hi0, hz0, hz1, hz2⟩ := info_parts infoU8
  obtain ⟨i1, hi1, hy0, hy1, hy2⟩ := info_parts infoFrame
  have H0 := Lib.hid h0
  have HXR := Lib.hid hxr
  clear h0 hxr
  obtain ⟨kd, hkd⟩ : ∃ kd : Int, (if http then 2 else 1) = kd := ⟨_, rfl⟩
  have hnew := fun W => stream_new http W
  rw [hkd] at hnew
  have HNEW := Lib.hid hnew
  have HKD := Lib.hid hkd
  clear hnew hkd
  go_enter Tryz.func3, Tryz.ntmps3
  go_upto_region 1 with fail
  go_cut [0] (fun s0 wx => s0 = .int .i64 kd ∧ Upd Nix w wx)
  case first =>
    cases http with
    | false =>
      have ha : wrap64 ((IntKind.u64.wrap x).tmod 2) = 0 := hx
      clear hx
      go_wp2_with fail
      go_meet
      exact ⟨congrArg (Value.int .i64) HKD.out, (Upd.refl _ _).alloc _⟩
    | true =>
      have ha : wrap64 ((IntKind.u64.wrap x).tmod 2) = 1 := hx
      clear hx
      go_wp2_with fail
      go_meet
      exact ⟨congrArg (Value.int .i64) HKD.out, (Upd.refl _ _).alloc _⟩
  case rest =>
  obtain ⟨rfl, hu0⟩ := hcut
  have HU0 := Lib.hid hu0
  clear hx hu0
  go_wp2_with fail
  refine (HNEW.out wc).mono ?_
  rintro e w1 ⟨sa, va, rfl, hsa, hu1⟩
  have hs1 := hu1.size
  have hs0 := HU0.out.size
  obtain ⟨B1, hB1⟩ : ∃ B1, wc.heap.size = B1 := ⟨_, rfl⟩
  rw [hB1] at hsa hs1 hs0
  have HSA := Lib.hid hsa
  have HU1 := Lib.hid (HU0.out.trans hu1 fun _ _ h => h)
  clear hsa hu1 hB1
  go_wp2_with fail
  refine (HNEW.out w1).mono ?_
  rintro e w2 ⟨sb, vb, rfl, hsb, hu2⟩
  have HSA2 := Lib.hid (HSA.out.upd hu2 (fun _ _ h => h))
  have HSAL := Lib.hid HSA.out.lt
  have HSB := Lib.hid hsb
  have HU2 := Lib.hid (HU1.out.trans hu2 fun _ _ h => h)
  have hs2 := hu2.size
  clear hsb hu2
  go_upto_block 0 with fail
  go_cut [13] (fun s13 wx => ∃ k A7 n7 c7 ys, s13 = .slice A7 n7 c7 ∧ k = min n0 9 ∧ CuOne w2 http k A7 n7 c7 ys wx)
  case first =>
    go_wp2_with fail
    go_loopw [13, 48] (fun s13 s48 wr => ∃ k A7 n7 c7 ys, s13 = .slice A7 n7 c7 ∧ k ≤ 9 ∧ k ≤ n0 ∧ s48 = .int .i64 k ∧ CuOne w2 http k A7 n7 c7 ys wr) (fun _ s48 _ => n0 - (intOf s48).toNat)
    case atStart => exact ⟨0, none, 0, 0, [], rfl, by omega, by omega, rfl, ⟨⟨rfl, .inl ⟨rfl, rfl⟩⟩, by omega, by simp, by simp, rfl, Upd.refl _ _⟩⟩
    case round =>
      obtain ⟨k, A7, n7, c7, ys, rfl, hk9, hkn, rfl, hat⟩ := hrel
      have HAT := Lib.hid hat
      have h7 := hat.n7
      have hsz := hat.upd.size
      clear hat
      by_cases hkn2 : k < n0
      · have hki : (k : Int) < (n0 : Int) := by omega
        have hbel : Below w.heap.size w wr := (HU2.out.trans HAT.out.upd fun _ _ h => h).belowNix (Nat.le_refl _)
        have hrows := H0.out.below hbel
        obtain ⟨ad, r, hadB, hr, hmem, hcell, hidx⟩ := hrows.idx hkn2
        have hsl := (H0.out.each r hmem).below hbel
        obtain ⟨m0, hm0⟩ : ∃ m0, min r.n 200 = m0 := ⟨_, rfl⟩
        have hmin : min (r.n : Int) 200 = (m0 : Int) := by omega
        have hrn : m0 ≤ r.n := by omega
        have hm200 : m0 ≤ 200 := by omega
        have hrc : m0 ≤ r.c := by have := hsl.nc; omega
        have hfr := hsl.front hrn
        obtain ⟨l0, hl0⟩ : ∃ l0, r.l.take m0 = l0 := ⟨_, rfl⟩
        rw [hl0] at hfr
        have HS := Lib.hid hfr
        have hll := hfr.llen
        have HLL := Lib.hid hll
        have hlw : w.heap.size ≤ wr.heap.size := by omega
        clear hr hmem hrows hsl hm0 hfr hl0 hll hbel
        by_cases hk8 : k ≤ 8
        · have hk8i : ¬ (8 : Int) < (k : Int) := by omega
          go_wp2_with fail
          refine (prefix_encode r.A m0 r.c w.heap.size l0 wr HS.out.rd hlw (by omega)).mono ?_
          rintro e w3 ⟨⟨ad3, c3, rfl, hown3⟩, hu3⟩
          have HO3 := Lib.hid hown3
          have HAT3 := Lib.hid (HAT.out.go hu3)
          have hs3 := hu3.size
          have HS3 := Lib.hid (HS.out.below (hu3.belowNix hlw))
          clear hown3 hu3
          obtain ⟨FL, hFL⟩ : ∃ FL, (ys.map (encS http)).flatten = FL := ⟨_, rfl⟩
          have HFL := Lib.hid hFL
          clear hFL
          cases http with
          | false =>
            have hk2 : kd = 1 := HKD.out.symm
            subst hk2
            have hall := HAT3.out.all
            rw [HFL.out] at hall
            have HALL := Lib.hid hall
            have hen : (encS false (l0, false)).length = 2 + m0 := by
              show (encP l0).length = _
              simp [encP, HLL.out]; omega
            have HEN := Lib.hid hen
            clear hall hen
            go_wp2_with (at_builtin; refine wpList_app _ rfl (.tmp 83) (.tmp 84) 29 rfl w2.heap.size 5 i0 _ 1 1 Tryz.underlying29 hi0 hz0 hz1 hz2 rfl (by omega) (.slice A7 n7 c7) n7 (byts FL) rfl HALL.out w3.heap.size (some ad3) (2 + m0) c3 (byts (encP l0)) rfl (Rd.own HO3.out) (by intro u hu; simp only [byts, List.mem_map] at hu; obtain ⟨b, _, rfl⟩ := hu; rfl) (by unfold maxLen; omega) (by omega) (by omega) ?_; intro A9 c9 w9 hown9 hg9 hat9)
            refine ⟨⟨k + 1, A9, n7 + (2 + m0), c9, ys ++ [(l0, false)], rfl, by omega, by omega, by rfl, HAT3.out.push (y := (l0, false)) HEN.out (by show l0.length ≤ 200; rw [HLL.out]; exact hm200) HS.out.bytes (by rw [HFL.out]; exact hown9) hg9⟩, ?_⟩
            simp only [intOf]; omega
          | true =>
            have hk2 : kd = 2 := HKD.out.symm
            subst hk2
            have hask := fun (bb : Bool) (W : World) (hW : Upd Nix w3 W) => ref_ask r.A m0 r.c l0 bb W ((HS3.out.rd.below (hW.belowNix (by omega))).more (Nat.le_trans hlw (Nat.le_trans hs3 hW.size))) hrc (by omega)
            have HASK := Lib.hid hask
            clear hask
            have hkm : ((k : Int)).tmod 32 = (k : Int) := by rw [Int.tmod_eq_emod_of_nonneg (by omega)]; omega
            go_upto_region 13 with fail
            go_cut [16, 17] (fun s16 s17 wx => ∃ (bb : Bool) (ad4 : Addr) (n4 c4 : Nat), s16 = .slice (some ad4) n4 c4 ∧ s17 = .int .i64 0 ∧ n4 = (askL l0 bb false).length ∧ Rd wx wx.heap.size 1 (some ad4) n4 (byts (askL l0 bb false)) ∧ Upd Nix w3 wx)
            case first =>
              go_wp2_with fail
              go_region_with ((go_at_call 7; (refine (HASK.out _ _ (Upd.refl _ _).drew).mono ?_); rintro e w4 ⟨⟨ad4, n4, c4, rfl, hn4, hc4, hr4⟩, hu4⟩))
              all_goals
                have HF := Lib.hid (And.intro hn4 (And.intro hr4 ((Upd.refl Nix w3).drew.trans hu4 fun _ _ h => h)))
                clear hn4 hr4 hu4
                go_wp2_with fail
                go_meet
                have h1 := HF.out.2.1
                rw [HF.out.1] at h1
                exact ⟨_, ad4, _, c4, rfl, rfl, rfl, h1, HF.out.2.2⟩
            case rest =>
            obtain ⟨bb, ad4, n4, c4, rfl, rfl, hn4, hr4, hu4⟩ := hcut
            have HAT4 := Lib.hid (HAT3.out.go hu4)
            have hall := HAT4.out.all
            rw [HFL.out] at hall
            have HALL := Lib.hid hall
            have HR4 := Lib.hid hr4
            have HN4 := Lib.hid (show (encS true (l0, bb)).length = n4 from hn4.symm)
            have hl4 := encS_long (http := true) (y := (l0, bb)) (by show l0.length ≤ 200; rw [HLL.out]; exact hm200)
            rw [HN4.out] at hl4
            have hs4 := hu4.size
            clear hall hn4 hr4 hu4
            go_wp2_with (at_builtin; refine wpList_app _ rfl (.tmp 83) (.tmp 84) 29 rfl w2.heap.size 5 i0 _ 1 1 Tryz.underlying29 hi0 hz0 hz1 hz2 rfl (by omega) (.slice A7 n7 c7) n7 (byts FL) rfl HALL.out wc.heap.size (some ad4) n4 c4 (byts (askL l0 bb false)) rfl HR4.out (by intro u hu; simp only [byts, List.mem_map] at hu; obtain ⟨b, _, rfl⟩ := hu; rfl) (by unfold maxLen; omega) (by omega) (by omega) ?_; intro A9 c9 w9 hown9 hg9 hat9)
            refine ⟨⟨k + 1, A9, n7 + n4, c9, ys ++ [(l0, bb)], rfl, by omega, by omega, by rfl, HAT4.out.push (y := (l0, bb)) HN4.out (by show l0.length ≤ 200; rw [HLL.out]; exact hm200) HS.out.bytes (by rw [HFL.out]; exact hown9) hg9⟩, ?_⟩
            simp only [intOf]; omega
        · have hk8i : (8 : Int) < (k : Int) := by omega
          go_wp2_with fail
          go_meet
          exact ⟨k, A7, n7, c7, ys, rfl, by omega, HAT.out⟩
      · have hki : ¬ (k : Int) < (n0 : Int) := by omega
        go_wp2_with fail
        go_meet
        exact ⟨k, A7, n7, c7, ys, rfl, by omega, HAT.out⟩
  case rest =>
  obtain ⟨k, A7, n7, c7, ys, rfl, hk, hat⟩ := hcut
  have h7 := hat.n7
  have hk9 : k ≤ 9 := by omega
  have hall := hat.all
  obtain ⟨AL, hAL⟩ : ∃ AL, (ys.map (encS http)).flatten = AL := ⟨_, rfl⟩
  have hwh := whole_enc http ys hat.small
  have hALb := encs_lt (http := http) hat.bytes hat.small
  rw [hAL] at hall hwh hALb
  have hln : AL.length = n7 := by have := hall.1; simpa [byts] using this
  have hyl := hat.len
  obtain ⟨W, hW⟩ : ∃ W : List Fr, (ys.map fun y => ⟨false, y.1⟩) = W := ⟨_, rfl⟩
  have hWl : W.length = k := by rw [← hW, List.length_map, hyl]
  rw [hW] at hwh
  have hfed0 := FedS.start http
  obtain ⟨hok0, hfedA⟩ := hfed0.more (x := AL) (q := []) (by simpa using hwh) (by simp; omega)
  have hW2 := hfedA.whole (by simpa using hwh)
  rw [List.nil_append] at hW2
  have hsa := HSA2.out.upd hat.upd (fun _ _ h => h)
  have hsb := HSB.out.upd hat.upd (fun _ _ h => h)
  have hsz := hat.upd.size
  have hwc : B1 ≤ wc.heap.size := by omega
  have hfeed := stream_feed B1 sa va (startS http) A7 n7 c7 AL wc hsa (Rd.own hall) hALb hok0 hwc
  have hw2wc : Upd Nix w wc := HU2.out.trans hat.upd fun _ _ h => h
  have HFEED := Lib.hid hfeed
  have HALL := Lib.hid hall
  have HSB4 := Lib.hid hsb
  have HWH := Lib.hid hwh
  have HW2 := Lib.hid hW2
  have HALB := Lib.hid hALb
  have HLN := Lib.hid hln
  have HWL := Lib.hid hWl
  have HU4 := Lib.hid hw2wc
  have HK := Lib.hid hk
  clear hat hall hAL hwh hALb hln hyl hW hWl hfed0 hok0 hfedA hW2 hsa hsb hfeed hw2wc hk
  go_wp2_with fail
  refine HFEED.out.mono ?_
  rintro e w5 ⟨Aw, cw, fsw, va5, rfl, hsaid, hfs, hst5, hu5, hft5, hap5⟩
  have hs5 := hu5.size
  have hfl : fsw.length = k := by
    have h1 := congrArg List.length hsaid
    rw [List.length_map, HW2.out, HWL.out] at h1
    exact h1
  have hb5 := HSB4.out.upd hu5 (fun b hb hf => by
    have h1 := (HSB4.out.lt b hb).2
    have h2 := (HSAL.out b hf).1
    omega)
  have hA5 : ∀ b, SFoot sa va b → b < w1.heap.size ∧ B1 ≤ b := fun b hb => HSAL.out b hb
  have hall5 := own_upd' HALL.out hu5 (fun b hb hf => by
    have h1 := own_ge HALL.out b hb
    have h2 := (hA5 b hf).1
    omega)
  have hinv : CuInv w w2 w5 w1.heap.size sb http AL Aw cw fsw A7 n7 c7 AL none 0 0 [] vb (startS http) [] [] w5 := by
    refine ⟨hb5, FedS.start http, rfl, HLN.out, Lies.of_own hall5, fun b hb => (own_in hall5 hb).1, ⟨rfl, .inl ⟨rfl, rfl⟩⟩, rfl, fun f hf => (by cases hf), rfl, ⟨own_dn hfs.out hsz, fun f hf => ⟨own_dn (hfs.rows f hf).1 hsz, (hfs.rows f hf).2⟩⟩, ⟨fun b hb => (own_in hfs.out hb).1, fun f hf b hb => (own_in (hfs.rows f hf).1 hb).1⟩, fun b hb _ => (HSB.out.lt b hb).1, ⟨by omega, Nat.le_refl _, by omega, by omega⟩, ?_⟩
    refine (HU4.out.belowNix (Nat.le_refl _)).trans (hu5.below (by omega) fun b _ hf => ?_)
    have := (hA5 b hf).2
    omega
  have HINV := Lib.hid hinv
  have HSAID := Lib.hid (hsaid.trans HW2.out)
  have HFL := Lib.hid hfl
  rw [hfl]
  clear hsaid hfs hst5 hu5 hft5 hap5 hfl hb5 hA5 hall5 hinv
  go_wp2_with fail
  go_loopw [13, 19, 92] (fun s13 s19 s92 wr => ∃ (i : Nat) (A : Option Addr) (n c : Nat) (rest : List Nat) (Ag : Option Addr) (gn cg : Nat) (gfs : List FrV) (vk : SV) (σ : SS) (p : List Nat) (frs : List Fr), i ≤ mc ∧ s92 = .int .i64 i ∧ s13 = .slice A n c ∧ s19 = .slice Ag gn cg ∧ CuInv w w2 w5 w1.heap.size sb http AL Aw cw fsw A n c rest Ag gn cg gfs vk σ p frs wr) (fun _ _ s92 _ => mc - (intOf s92).toNat)
  case atStart => exact ⟨0, A7, n7, c7, AL, none, 0, 0, [], vb, _, [], [], Nat.zero_le _, rfl, rfl, rfl, HINV.out⟩
  case round =>
    obtain ⟨i, A, n, c, rest, Ag, gn, cg, gfs, vk, σ, p, frs, hi, rfl, rfl, rfl, hcu⟩ := hrel
    have HCU := Lib.hid hcu
    have hcnt := hcu.fed.count
    have hpl := congrArg List.length hcu.pr
    have hrl := hcu.rl
    rw [List.length_append, HLN.out] at hpl
    have hgl : gn = frs.length := by rw [← hcu.said, List.length_map, hcu.gl]
    have hnc : n ≤ c := by
      obtain ⟨A', c', he, h1⟩ := hcu.buf.form
      injection he with _ _ he
      omega
    have hgn : gn ≤ 100000 := by omega
    have hn7 : n ≤ n7 := by omega
    have hpn : p.length + n = n7 := by omega
    obtain ⟨z1, z2, z3, z4⟩ := hcu.size
    clear hcu hcnt hpl hrl hgl
    by_cases him : i < mc
    · have himi : (i : Int) < (mc : Int) := by omega
      obtain ⟨ax, hax, haxB, hxc⟩ := HXR.out.2 (by have := HXR.out.1; simp [intsV] at this; omega)
      subst hax
      obtain ⟨v, hv⟩ : ∃ v, xs[i]? = some v := ⟨_, List.getElem?_eq_getElem (by have := HXR.out.1; simp [intsV] at this; omega)⟩
      have hcv : wr.cell? (ax.add i) = some (.int .i64 v) := (HCU.out.bel.cell (p := ax.add i) (by rw [Cx.block_add]; exact haxB)).trans (hxc i _ (by rw [intsV, List.getElem?_map, hv]; rfl))
      obtain ⟨a, ha, ha60⟩ := umod v 60 (by omega) (by omega)
      have ha : wrap64 ((IntKind.u64.wrap v).tmod 60) = (a : Int) := ha
      obtain ⟨m, hm⟩ : ∃ m, min a n = m := ⟨_, rfl⟩
      have hmin : min (a : Int) (n : Int) = (m : Int) := by omega
      have hmn : m ≤ n := by omega
      have hmc : m ≤ c := by omega
      have hpr : p ++ rest.take m ++ rest.drop m = AL := by rw [List.append_assoc, List.take_append_drop]; exact HCU.out.pr
      obtain ⟨hok, hfed⟩ := HCU.out.fed.more (x := rest.take m) (q := rest.drop m) (by rw [hpr]; exact HWH.out) (by rw [List.length_take]; omega)
      have hfr := (HCU.out.buf.rd rfl).front (k := m) hmn
      rw [Nat.mul_one] at hfr
      have htk : (byts rest).take m = byts (rest.take m) := by simp [byts, List.map_take]
      rw [htk] at hfr
      have hrb : ∀ b ∈ rest.take m, b < 256 := fun b hb => HALB.out b (by rw [← HCU.out.pr]; exact List.mem_append_right _ (List.mem_of_mem_take hb))
      have hfeed := stream_feed w1.heap.size sb vk σ A m c (rest.take m) wr HCU.out.st hfr hrb hok (by omega)
      have HFEED2 := Lib.hid hfeed
      have HFED2 := Lib.hid hfed
      clear hv hxc hm hpr hok hfed hfr htk hrb hfeed
      go_wp2_with fail
      refine HFEED2.out.mono ?_
      rintro e w6 ⟨A8, c8, fs, v6, rfl, hsaid6, hfs6, hst6, hu6, hft6, hap6⟩
      obtain ⟨q, hq⟩ : ∃ q, fs.length = q := ⟨_, rfl⟩
      have hq2 : q ≤ 100000 := by
        have h1 := HFED2.out.count
        rw [List.length_append, ← hsaid6, List.length_map, hq, List.length_append, List.length_take] at h1
        omega
      have HQ := Lib.hid hq
      have hs6 := hu6.size
      have hgot6 := own_upd' HCU.out.got hu6 (fun b hb hf => by
        obtain ⟨_, cs, hcs⟩ := own_in HCU.out.got hb
        rcases hf with rfl | hf
        · exact Blk.ne (t := 65) hcs HCU.out.st.blk (by decide) rfl
        · exact SInner.no_frame HCU.out.st.inner hcs hf)
      have hrd6 := Rd.own hfs6.out
      rw [hq] at hrd6
      have H6a := Lib.hid hsaid6
      have H6b := Lib.hid hfs6
      have H6c := Lib.hid hst6
      have H6d := Lib.hid hu6
      have H6e := Lib.hid hft6
      have H6f := Lib.hid hap6
      have HG6 := Lib.hid hgot6
      have HRD6 := Lib.hid hrd6
      have hone : ∀ u ∈ (fs.map FrV.cells).flatten, u.oneCell' = true := by
        intro u hu
        obtain ⟨l, hl, hu⟩ := List.mem_flatten.1 hu
        obtain ⟨f, _, rfl⟩ := List.mem_map.1 hl
        simp only [FrV.cells, List.mem_cons, List.not_mem_nil, or_false] at hu
        rcases hu with rfl | rfl <;> rfl
      have HONE := Lib.hid hone
      rw [hq]
      clear hsaid6 hfs6 hst6 hu6 hft6 hap6 hq hgot6 hrd6 hone
      go_upto_region 25 with (at_builtin; refine wpList_app _ rfl (.tmp 103) (.tmp 108) 33 rfl w5.heap.size 65 i1 _ 2 32 Tryz.underlying33 hi1 hy0 hy1 hy2 rfl (by omega) (.slice Ag gn cg) gn ((gfs.map FrV.cells).flatten) rfl HG6.out w6.heap.size A8 q c8 ((fs.map FrV.cells).flatten) rfl HRD6.out HONE.out (by unfold maxLen; omega) (by omega) (by omega) ?_; intro A11 c11 w11 hown11 hg11 hat11)
      have hstep := HCU.out.step hmn H6a.out H6b.out H6c.out H6d.out H6e.out H6f.out HFED2.out HQ.out hown11 hg11
      have HSTEP2 := Lib.hid hstep
      clear hstep hown11 hg11 hat11
      by_cases hcm : c = m
      · have HSTEP := HSTEP2.out
        rw [if_pos hcm, show c - m = 0 by omega] at HSTEP
        have HS3 := Lib.hid HSTEP
        clear HSTEP
        go_wp2_with fail
        refine ⟨⟨i + 1, _, _, _, _, A11, gn + q, c11, gfs ++ fs, v6, _, _, _, by omega, by rfl, rfl, rfl, HS3.out⟩, ?_⟩
        simp only [intOf]; omega
      · have HSTEP := HSTEP2.out
        rw [if_neg hcm, Nat.mul_one] at HSTEP
        have HS3 := Lib.hid HSTEP
        clear HSTEP
        go_wp2_with fail
        refine ⟨⟨i + 1, _, _, _, _, A11, gn + q, c11, gfs ++ fs, v6, _, _, _, by omega, by rfl, rfl, rfl, HS3.out⟩, ?_⟩
        simp only [intOf]; omega
    · have himi : ¬ (i : Int) < (mc : Int) := by omega
      have hpr : p ++ rest ++ [] = AL := by rw [List.append_nil]; exact HCU.out.pr
      obtain ⟨hok, hfed⟩ := HCU.out.fed.more (x := rest) (q := []) (by rw [hpr]; exact HWH.out) (by rw [HCU.out.rl]; omega)
      have hrb : ∀ b ∈ rest, b < 256 := fun b hb => HALB.out b (by rw [← HCU.out.pr]; exact List.mem_append_right _ hb)
      have hfeed := stream_feed w1.heap.size sb vk σ A n c rest wr HCU.out.st (HCU.out.buf.rd rfl) hrb hok (by omega)
      have HFEED2 := Lib.hid hfeed
      have HFED2 := Lib.hid hfed
      clear hpr hok hfed hrb hfeed
      go_wp2_with fail
      refine HFEED2.out.mono ?_
      rintro e w6 ⟨A8, c8, fs, v6, rfl, hsaid6, hfs6, hst6, hu6, hft6, hap6⟩
      obtain ⟨q, hq⟩ : ∃ q, fs.length = q := ⟨_, rfl⟩
      have hq2 : q ≤ 100000 := by
        have h1 := HFED2.out.count
        rw [List.length_append, ← hsaid6, List.length_map, hq, List.length_append, HCU.out.rl] at h1
        omega
      have HQ := Lib.hid hq
      have hs6 := hu6.size
      have hgot6 := own_upd' HCU.out.got hu6 (fun b hb hf => by
        obtain ⟨_, cs, hcs⟩ := own_in HCU.out.got hb
        rcases hf with rfl | hf
        · exact Blk.ne (t := 65) hcs HCU.out.st.blk (by decide) rfl
        · exact SInner.no_frame HCU.out.st.inner hcs hf)
      have hrd6 := Rd.own hfs6.out
      rw [hq] at hrd6
      have H6a := Lib.hid hsaid6
      have H6b := Lib.hid hfs6
      have H6c := Lib.hid hst6
      have H6d := Lib.hid hu6
      have H6e := Lib.hid hft6
      have H6f := Lib.hid hap6
      have HG6 := Lib.hid hgot6
      have HRD6 := Lib.hid hrd6
      have hone : ∀ u ∈ (fs.map FrV.cells).flatten, u.oneCell' = true := by
        intro u hu
        obtain ⟨l, hl, hu⟩ := List.mem_flatten.1 hu
        obtain ⟨f, _, rfl⟩ := List.mem_map.1 hl
        simp only [FrV.cells, List.mem_cons, List.not_mem_nil, or_false] at hu
        rcases hu with rfl | rfl <;> rfl
      have HONE := Lib.hid hone
      rw [hq]
      clear hsaid6 hfs6 hst6 hu6 hft6 hap6 hq hgot6 hrd6 hone
      go_upto_region 28 with (at_builtin; refine wpList_app _ rfl (.tmp 114) (.tmp 117) 33 rfl w5.heap.size 65 i1 _ 2 32 Tryz.underlying33 hi1 hy0 hy1 hy2 rfl (by omega) (.slice Ag gn cg) gn ((gfs.map FrV.cells).flatten) rfl HG6.out w6.heap.size A8 q c8 ((fs.map FrV.cells).flatten) rfl HRD6.out HONE.out (by unfold maxLen; omega) (by omega) (by omega) ?_; intro A11 c11 w11 hown11 hg11 hat11)
      have htn : rest.take n = rest := List.take_of_length_le (by rw [HCU.out.rl]; exact Nat.le_refl _)
      have hstep := HCU.out.step (m := n) (Nat.le_refl _) (by rw [htn]; exact H6a.out) H6b.out (by rw [htn]; exact H6c.out) H6d.out H6e.out H6f.out (by rw [htn]; exact HFED2.out) HQ.out hown11 hg11
      rw [htn] at hstep
      have hall : frs ++ (feedS σ rest).1 = W := hstep.fed.whole (by rw [HCU.out.pr]; exact HWH.out)
      have hgsaid : (gfs ++ fs).map FrV.said = fsw.map FrV.said := by rw [hstep.said, hall, HSAID.out]
      have hglen : (gfs ++ fs).length = k := by
        have h1 := congrArg List.length hgsaid
        rw [List.length_map, List.length_map, HFL.out] at h1
        exact h1
      have hgq : gn + q = k := by rw [← hstep.gl]; exact hglen
      have hgo : FrsOwn w5.heap.size A11 c11 (gfs ++ fs) w11 := ⟨by rw [hstep.gl]; exact hstep.got, fun f hf => (hstep.rows f hf).1⟩
      have hsame := same_frames A11 Aw k c11 cw _ _ (gfs ++ fs) fsw w11 hgo hstep.want hglen HFL.out (by omega) hgsaid
      have HSAME := Lib.hid hsame
      have HBEL := Lib.hid hstep.bel
      rw [hgq]
      have hk2 : ((k : Int) == min (n0 : Int) 9) = true := by
        have := HK.out
        have h1 : (k : Int) = min (n0 : Int) 9 := by omega
        rw [h1]; simp
      clear hown11 hg11 hat11 htn hstep hall hgsaid hglen hgq hgo hsame
      go_wp2_with fail
      refine HSAME.out.mono ?_
      rintro e w12 ⟨rfl, hu12⟩
      have HB12 := Lib.hid (HBEL.out.trans (hu12.belowNix HBEL.out.size))
      clear hu12
      go_wp2_with fail
      go_ret
      exact ⟨rfl, HB12.out⟩
theorem streamCuts (x : Int) (A0 : Option Addr) (n0 c0 : Nat) (L : List Row) (Ac : Option Addr) (mc cc : Nat) (xs : List Int) (ch : Int) (w : World) (_hx : (Lit.int .i64 x).wf = true) (h0 : RowsAt w w.heap.size A0 n0 c0 L) (hxr : Rd w w.heap.size 1 Ac mc (intsV xs)) (hmc : mc ≤ cc) (_hw : ∀ x ∈ xs, (Lit.int .i64 x).wf = true) (hcc0 : cc * Tryz.prog.bytesOf 3 ≤ reachBytes) (_hch : (Lit.int .u64 ch).wf = true) :
    Calls Tryz.prog 3 #[.int .i64 x, .slice A0 n0 c0, .slice Ac mc cc, .int .u64 ch] w fun e w' => e = .returned (.bool true) ∧ Below w.heap.size w w' := by
  obtain ⟨a, ha, ha2⟩ := umod x 2 (by omega) (by omega)
  rcases (by omega : a = 0 ∨ a = 1) with rfl | rfl
  · exact streamCuts_k false x ha A0 n0 c0 L Ac mc cc xs ch w h0 hxr hmc hcc0
  · exact streamCuts_k true x ha A0 n0 c0 L Ac mc cc xs ch w h0 hxr hmc hcc0
end Go.Proofs.YtageanmjdfodnaaGreat
