/- RegistryMaps: the rest of a round. -/
import Derived.Test.YtfgnipcegnoagaaMapsC
namespace Go.Proofs.Ytfgnipcegnoagaa
open Go.RowKit Go.MapKept

theorem nameOk_size {n : ByteArray} (h : nameOk n = true) : n.size ≤ 9223372036854775807 := by
  unfold nameOk at h
  simp only [Bool.and_eq_true] at h
  have h2 := h.1.2
  unfold usOk at h2
  simp only [Bool.and_eq_true, decide_eq_true_eq] at h2
  omega
theorem sameT_yes {w : World} {v1 v2 : Value} {l : List Top} (h1 : RowT w v1 l) (h2 : RowT w v2 l) (hn : l.length ≤ 1000000) : Calls Try.prog 18 #[v1, v2] w fun e w' => e = .returned (.bool true) ∧ Fr (fun _ => False) w w' :=
  (sameT_walk w v1 v2 l l h1 h2 hn).mono fun _ _ ⟨he, hf⟩ => ⟨by rw [he, decide_eq_true rfl], hf⟩

set_option maxRecDepth 1000000 in
set_option maxHeartbeats 8000000 in
theorem maps_tail {K : Go.Act → World → Prop} {Q : Exit → Go.Act → World → Prop} {s0 s1 s2 s4 s9 s10 s11 s12 s13 s14 s15 s16 s17 s18 s19 s20 s21 s22 s23 s24 s25 s26 s27 s28 s29 s30 s31 s32 s33 s34 s35 s36 s37 s38 s39 s40 s41 s42 s43 s44 s45 s46 s47 s48 s49 s50 s51 s52 s53 s54 s55 s56 s57 s58 s59 s60 s61 s62 s63 s64 s65 s66 s67 s68 s69 s70 s71 s72 s73 s74 s75 s76 s77 s78 s79 s80 s81 s82 s83 s84 s85 s86 s87 s88 s89 s90 s91 s92 s93 s94 s95 s96 s97 s98 s99 s100 s101 s102 s103 s104 s105 s106 s107 s108 s109 s110 s111 s112 s113 s114 s115 s116 s117 s118 s119 s120 s121 s122 s123 s124 s125 s126 s127 s128 s129 s130 s131 s132 s133 s134 s135 s136 s137 s138 s139 s140 s141 s142 s143 s144 s145 s146 s147 s148 s149 s150 s151 s152 s153 s154 s155 s156 s157 s158 s159 s160 s161 s162 s163 s164 s165 s166 s167 s168 s169 s170 s171 s172 s173 s174 s175 s176 s177 s178 s179 s180 s181 s182 s183 s184 s185 s186 s187 s188 s189 s190 s191 s192 s193 s194 s195 s196 s197 s198 s199 s200 s201 s202 s203 s204 s205 s206 s207 s208 s209 s210 s211 s212 s213 s214 s215 s216 s217 s218 s219 s220 s221 s222 s223 s224 s225 s226 s227 s228 s229 s230 s231 s232 s233 s234 s235 s236 s237 s238 s239 s240 s241 s242 s243 s244 s245 s246 s247 s248 s249 s250 s251 s252 s253 : Value} {w W : World} {rb b5 i : Nat} {x : Act} {R : Rg} {cl : Cl} {g0 was away : List Top} {oth : ByteArray} {pw : Option Addr} {cw : Nat} {va : Value} {W0 : World} (P : SwPre w W0 rb b5 x R cl g0 was away oth (.slice pw was.length cw) va i) (hA : AftSw w rb [(b5, .cells #[.int .i64 x.kind, .string x.client, .string x.name, .int .i64 x.id] 36)] R x.client g0 was away (.slice pw was.length cw) va i s9 W)
    (hK : ∀ (u2 u16 u17 u18 u19 u20 u21 u22 u146 u147 u148 u149 u150 u151 u152 u153 u154 u155 u156 u157 u158 u159 u160 u161 u162 u163 u164 u165 u166 u167 u168 u169 u170 u171 u172 u173 u174 u175 u176 u177 u178 u179 u180 u181 u182 u183 u184 u185 u186 u187 u188 u189 u190 u191 u192 u193 u194 u195 u196 u197 u198 u199 u200 u201 u202 u203 u204 u205 u206 u207 u208 u209 u210 u211 u212 u213 u214 u215 u216 u217 u218 u219 u220 u221 u222 u223 u224 u225 u226 u227 u228 u229 u230 u231 u232 u233 u234 u235 u236 u237 u238 u239 u240 u241 u242 u243 u244 u245 u246 u247 u248 u249 u250 u251 u252 u253 : Value) (wc : World), AftRd w rb i wc → K ⟨#[s0, s1, u2, ptrV rb, s4, .pointer (some ⟨b5, 0, none⟩), .slice pw was.length cw, .string oth, va, s9, s10, s11, s12, s13, s14, s15, u16, u17, u18, u19, u20, u21, u22, s23, s24, s25, s26, s27, s28, s29, s30, s31, s32, s33, s34, s35, s36, s37, s38, s39, s40, s41, s42, s43, s44, s45, s46, s47, s48, s49, s50, s51, s52, s53, s54, s55, s56, s57, s58, s59, s60, s61, s62, s63, s64, s65, s66, s67, s68, s69, s70, s71, s72, s73, s74, s75, s76, s77, s78, s79, s80, s81, s82, s83, s84, s85, s86, s87, s88, s89, s90, s91, s92, s93, s94, s95, s96, s97, s98, s99, s100, s101, s102, s103, s104, s105, s106, s107, s108, s109, s110, s111, s112, s113, s114, s115, s116, s117, s118, s119, s120, s121, s122, s123, s124, s125, s126, s127, s128, s129, s130, s131, s132, s133, s134, s135, s136, s137, s138, s139, s140, s141, s142, s143, s144, s145, u146, u147, u148, u149, u150, u151, u152, u153, u154, u155, u156, u157, u158, u159, u160, u161, u162, u163, u164, u165, u166, u167, u168, u169, u170, u171, u172, u173, u174, u175, u176, u177, u178, u179, u180, u181, u182, u183, u184, u185, u186, u187, u188, u189, u190, u191, u192, u193, u194, u195, u196, u197, u198, u199, u200, u201, u202, u203, u204, u205, u206, u207, u208, u209, u210, u211, u212, u213, u214, u215, u216, u217, u218, u219, u220, u221, u222, u223, u224, u225, u226, u227, u228, u229, u230, u231, u232, u233, u234, u235, u236, u237, u238, u239, u240, u241, u242, u243, u244, u245, u246, u247, u248, u249, u250, u251, u252, u253], []⟩ wc) :
    Code.wp Try.prog (partAt Try.f4 35) (Exit.then K Q) ⟨#[s0, s1, s2, ptrV rb, s4, .pointer (some ⟨b5, 0, none⟩), .slice pw was.length cw, .string oth, va, s9, s10, s11, s12, s13, s14, s15, s16, s17, s18, s19, s20, s21, s22, s23, s24, s25, s26, s27, s28, s29, s30, s31, s32, s33, s34, s35, s36, s37, s38, s39, s40, s41, s42, s43, s44, s45, s46, s47, s48, s49, s50, s51, s52, s53, s54, s55, s56, s57, s58, s59, s60, s61, s62, s63, s64, s65, s66, s67, s68, s69, s70, s71, s72, s73, s74, s75, s76, s77, s78, s79, s80, s81, s82, s83, s84, s85, s86, s87, s88, s89, s90, s91, s92, s93, s94, s95, s96, s97, s98, s99, s100, s101, s102, s103, s104, s105, s106, s107, s108, s109, s110, s111, s112, s113, s114, s115, s116, s117, s118, s119, s120, s121, s122, s123, s124, s125, s126, s127, s128, s129, s130, s131, s132, s133, s134, s135, s136, s137, s138, s139, s140, s141, s142, s143, s144, s145, s146, s147, s148, s149, s150, s151, s152, s153, s154, s155, s156, s157, s158, s159, s160, s161, s162, s163, s164, s165, s166, s167, s168, s169, s170, s171, s172, s173, s174, s175, s176, s177, s178, s179, s180, s181, s182, s183, s184, s185, s186, s187, s188, s189, s190, s191, s192, s193, s194, s195, s196, s197, s198, s199, s200, s201, s202, s203, s204, s205, s206, s207, s208, s209, s210, s211, s212, s213, s214, s215, s216, s217, s218, s219, s220, s221, s222, s223, s224, s225, s226, s227, s228, s229, s230, s231, s232, s233, s234, s235, s236, s237, s238, s239, s240, s241, s242, s243, s244, s245, s246, s247, s248, s249, s250, s251, s252, s253], []⟩ W := by
  conv => arg 2; whnf
  have HK := Lib.hid hK
  clear hK
  obtain ⟨R', n, rfl, hS, hoth, hw, ha, he, hl⟩ := hA
  have hgoth : R'.get oth = R.get oth := hoth oth P.hone
  obtain ⟨cl', hcl', hcg'⟩ := R'.tops_ok hS.r.ok x.client
  have hrd : ∀ W', Solo w W' rb R' [(b5, .cells #[.int .i64 x.kind, .string x.client, .string x.name, .int .i64 x.id] 36)] → AftRd w rb i W' := fun W' h => ⟨R', h.less, fun c => by
    by_cases e : c = x.client
    · rw [e]; exact hl
    · rw [hoth c e]; have := P.hlen c; omega⟩
  have Hrd := Lib.hid hrd
  have c5 := rowC (hS.prot _ (.head _)).1
  have HS := Lib.hid hS
  have Hw := Lib.hid hw
  have Ha := Lib.hid ha
  have He := Lib.hid he
  have Hl := Lib.hid hl
  have Hgo := Lib.hid hgoth
  have Hcl := Lib.hid hcl'
  have Hcg := Lib.hid hcg'
  clear hS hw ha he hl hgoth hoth hcl' hcg' hrd
  go_wp2_with fail
  refine (solo_topics HS.out x.client).mono ?_
  rintro e W1 ⟨vn, rfl, hS1, f1, hn1⟩
  obtain ⟨now, hnow⟩ : ∃ now, now = srtT (R'.get x.client) := ⟨_, rfl⟩
  rw [← hnow] at hn1
  obtain ⟨pn, cn, rfl⟩ := hn1.1.shape
  have hnl : now.length ≤ 81 := by rw [hnow, srtT_len]; have := Hl.out; have := P.hi; omega
  have haw : away.length ≤ 81 := by rw [P.haw, srtT_len]; have := P.hlen oth; have := P.hi; omega
  have HS1 := Lib.hid hS1
  have Hn1 := Lib.hid hn1
  have Hnow := Lib.hid hnow
  have Hw1 := Lib.hid (Hw.out.still f1)
  have Ha1 := Lib.hid (Ha.out.still f1)
  clear hS1 hn1 hnow f1 c5
  have hsame : ∀ W v1 v2, RowT W v1 away → RowT W v2 away → Calls Try.prog 18 #[v1, v2] W fun e w' => e = .returned (.bool true) ∧ Fr (fun _ => False) W w' := fun W v1 v2 h1 h2 => sameT_yes h1 h2 (by omega)
  have Hsame := Lib.hid hsame
  clear hsame
  go_upto_region 36 with fail
  go_cut [165] from 150 to 165 (fun bv wx => bv = .bool false ∧ Fr (fun _ => False) W1 wx)
  case first =>
    have htop : ∀ W, Fr (fun _ => False) W1 W → Calls Try.prog 16 #[ptrV rb, .string oth] W fun e w' => ∃ v, e = .returned v ∧ RowT w' v away ∧ Fr (fun _ => False) W w' := fun W hf => by
      have := solo_topics (HS1.out.still hf) oth
      rw [Hgo.out, ← P.haw] at this
      exact this.mono fun _ _ ⟨v, h1, h2, h3, h4⟩ => ⟨v, h1, h4.1, h3⟩
    have Htop := Lib.hid htop
    clear htop
    by_cases hn : n = 0
    · subst hn
      go_wp2_with fail
      refine (Htop.out W1 (Fr.refl _ _)).mono ?_
      rintro e W2 ⟨v2, rfl, r2, f2⟩
      go_wp2_with fail
      refine (Hsame.out W2 _ _ r2 (Ha1.out.1.kept f2 (fun _ _ h => h))).mono ?_
      rintro e W3 ⟨rfl, f3⟩
      go_wp2_with fail
      go_meet
      exact ⟨rfl, f2.trans f3 (fun _ _ h => h)⟩
    · have hnb : (n == 0) = false := beq_eq_false_iff_ne.2 hn
      have hnb2 : (n != 0) = true := by rw [bne_iff_ne]; exact hn
      have hnw : now = was := by rw [Hnow.out, He.out hn, P.hwas]
      have hsm := sameT_yes (w := W1) (v2 := .slice pw was.length cw) Hn1.out.1 (by rw [hnw]; exact Hw1.out.1) (by omega)
      clear hn hnw
      go_wp2_with fail
      refine hsm.mono ?_
      rintro e W2 ⟨rfl, f2⟩
      clear hsm
      go_wp2_with fail
      refine (Htop.out W2 f2).mono ?_
      rintro e W3 ⟨v3, rfl, r3, f3⟩
      go_wp2_with fail
      refine (Hsame.out W3 _ _ r3 (Ha1.out.1.kept (f2.trans f3 (fun _ _ h => h)) (fun _ _ h => h))).mono ?_
      rintro e W4 ⟨rfl, f4⟩
      go_wp2_with fail
      go_meet
      exact ⟨rfl, (f2.trans f3 (fun _ _ h => h)).trans f4 (fun _ _ h => h)⟩
  case rest =>
    obtain ⟨rfl, f2⟩ := hcut
    have hS2 := HS1.out.still f2
    have hn2 := Hn1.out.still f2
    have HS2 := Lib.hid hS2
    have Hn2 := Lib.hid hn2
    clear HS1 Hn1 Hw1 Ha1 hS2 hn2 f2
    go_wp2_with fail
    go_loopg [17] now.length (fun gk s wr => ∃ j : Nat, s = .int .i64 j ∧ j ≤ now.length ∧ gk = now.length - j ∧ Fr (fun _ => False) wc wr)
    case atStart => exact ⟨0, rfl, Nat.zero_le _, rfl, Fr.refl _ _⟩
    case round =>
      obtain ⟨j, rfl, hj, hgk, hf⟩ := hrel
      have Hgk := Lib.hid hgk
      clear hgk
      by_cases hjl : j < now.length
      · have hjl2 : (j : Int) < (now.length : Int) := by omega
        have ht : now[j]? = some now[j] := List.getElem?_eq_getElem hjl
        have hpw : now.Pairwise (fun a b => a.id < b.id) := by rw [Hnow.out, ← Hcg.out]; exact srtT_pw Hcl.out
        have hbj : ∀ k, j = k + 1 → ∃ y, now[k]? = some y ∧ y.id < now[j].id := fun k hk => by
          have hkl : k < now.length := by omega
          exact ⟨now[k], List.getElem?_eq_getElem hkl, List.pairwise_iff_getElem.1 hpw k j hkl hjl (by omega)⟩
        generalize now[j] = t at ht hbj
        obtain ⟨bn, rfl, y1, y2, y3⟩ := (Hn2.out.1.kept hf (fun _ _ h => h)).at ht
        have hwell : Well (R'.get x.client) t := by
          rw [← Hcg.out]
          refine Hcl.out.well ?_
          have := List.mem_of_getElem? ht
          rw [Hnow.out, ← Hcg.out] at this
          exact (srtT_perm _).mem_iff.1 this
        have Hwell := Lib.hid hwell
        have Hbj := Lib.hid hbj
        clear ht hpw hbj hwell
        go_upto_region 42 with fail
        have hS3 := ((HS2.out.still hf).alloc (.cells #[.int .i64 t.id, .string t.name, .bool t.fixed] 41) (alloc_new _ _))
        have hn3 := (Hn2.out.still hf).still (Fr.alloc (fun _ => False) wr (.cells #[.int .i64 t.id, .string t.name, .bool t.fixed] 41))
        have hf3 := hf.trans (Fr.alloc (fun _ => False) wr (.cells #[.int .i64 t.id, .string t.name, .bool t.fixed] 41)) (fun _ _ h => h)
        generalize wr.alloc (.cells #[.int .i64 t.id, .string t.name, .bool t.fixed] 41) = W3 at *
        generalize wr.heap.size = b18 at *
        clear y1 y2 y3 hf
        have c5 := rowC (hS3.prot _ (.tail _ (.head _))).1
        have c18 := rowC (hS3.prot _ (.head _)).1
        have HS3 := Lib.hid hS3
        have Hn3 := Lib.hid hn3
        clear hS3 hn3
        have D := solo_name HS3.out x.client t.id
        rw [Hwell.out.nm] at D
        go_wp2_with fail
        refine D.mono ?_
        rintro e W4 ⟨rfl, hS4, f4⟩
        clear D c5 c18
        have hf4 := hf3.trans f4 (fun _ _ h => h)
        have c5 := rowC (hS4.prot _ (.tail _ (.head _))).1
        have c18 := rowC (hS4.prot _ (.head _)).1
        have HS4 := Lib.hid hS4
        have Hn4 := Lib.hid (Hn3.out.still f4)
        clear hS4 f4 HS3 Hn3 hf3
        have D := solo_id HS4.out x.client t.name
        rw [Hwell.out.idr] at D
        go_upto_region 44 with (go_at_call 20; refine D.mono ?_; rintro e w' ⟨rfl, rfl⟩)
        clear D
        have hfx : ∀ n, Calls Try.prog 21 #[ptrV rb, .string x.client, .int .i64 t.id] (W4.drewN n) fun e w' => e = .returned (.bool t.fixed) ∧ w' = W4.drewN n := fun n => by
          have := solo_fixed (HS4.out.still (Fr.drewN _ _ n)) x.client t.id
          rw [Hwell.out.by_] at this
          exact this.mono fun _ _ ⟨h1, h2⟩ => ⟨h1, h2.symm⟩
        have hnm : ∀ n, Calls Try.prog 17 #[.string t.name] (W4.drewN n) fun e w' => e = .returned (.bool true) ∧ w' = W4.drewN n := fun n => by
          have := name4_walk t.name (W4.drewN n) (nameOk_size Hwell.out.ok)
          rw [Hwell.out.ok] at this
          exact this.mono fun _ _ ⟨h1, h2⟩ => ⟨h1, h2.symm⟩
        have hlo := Hwell.out.lo
        have hhi := Hwell.out.hi
        have hd1 : decide (t.id < 1) = false := decide_eq_false (by omega)
        have hd2 : decide (65534 < t.id) = false := decide_eq_false (by omega)
        have hend : ∀ nq, Fr (fun _ => False) wc (W4.drewN nq) := fun nq => hf4.trans (Fr.drewN (fun _ => False) _ _) (fun _ _ h => h)
        have Hend := Lib.hid hend
        clear hend hf4
        by_cases hj0 : j = 0
        · have hjd : decide ((0 : Int) < (j : Int)) = false := decide_eq_false (by omega)
          have hjm : decide (0 < j) = false := decide_eq_false (by omega)
          clear hj0
          go_quiet ((first | (go_at_call 21; exact Calls.quiet_of_same (hfx _)) | (go_at_call 17; exact Calls.quiet_of_same (hnm _))))
          go_wp2_with fail
          go_roundg (now.length - (j + 1))
          case measure => have := Hgk.out; omega
          case rel => exact ⟨j + 1, rfl, by omega, rfl, Hend.out _⟩
        · have hjd : decide ((0 : Int) < (j : Int)) = true := decide_eq_true (by omega)
          have hjm : decide (0 < j) = true := decide_eq_true (by omega)
          obtain ⟨k, hk⟩ : ∃ k, j = k + 1 := ⟨j - 1, by omega⟩
          have hk1 : (j : Int) - 1 = (k : Int) := by omega
          obtain ⟨y', z1, z2⟩ := Hbj.out k hk
          obtain ⟨b', e1, z3, z4, z5⟩ := Hn4.out.1.at z1
          cases e1
          have hkl : (k : Int) < (now.length : Int) := by omega
          have hd3 : decide (t.id ≤ y'.id) = false := decide_eq_false (by omega)
          clear hj0 hk z1 z2
          go_quiet ((first | (go_at_call 21; exact Calls.quiet_of_same (hfx _)) | (go_at_call 17; exact Calls.quiet_of_same (hnm _))))
          go_wp2_with fail
          go_roundg (now.length - (j + 1))
          case measure => have := Hgk.out; omega
          case rel => exact ⟨j + 1, rfl, by omega, rfl, Hend.out _⟩
      · have hjl2 : ¬ (j : Int) < (now.length : Int) := by omega
        have hfin := Lib.hid (Hrd.out _ (HS2.out.still hf))
        clear hf
        go_wp2_with fail
        apply HK.out
        exact hfin.out
end Go.Proofs.Ytfgnipcegnoagaa
