/- RegistryMaps: the round's Register. -/
import Derived.Test.YtfgnipcegnoagaaMapsA
namespace Go.Proofs.Ytfgnipcegnoagaa
open Go.RowKit Go.MapKept

set_option maxRecDepth 1000000 in
set_option maxHeartbeats 8000000 in
theorem maps_reg {K : Go.Act → World → Prop} {Q : Exit → Go.Act → World → Prop} {s0 s1 s2 s4 s9 s10 s11 s12 s13 s14 s15 s16 s17 s18 s19 s20 s21 s22 s23 s24 s25 s26 s27 s28 s29 s30 s31 s32 s33 s34 s35 s36 s37 s38 s39 s40 s41 s42 s43 s44 s45 s46 s47 s48 s49 s50 s51 s52 s53 s54 s55 s56 s57 s58 s59 s60 s61 s62 s63 s64 s65 s66 s67 s68 s69 s70 s71 s72 s73 s74 s75 s76 s77 s78 s79 s80 s81 s82 s83 s84 s85 s86 s87 s88 s89 s90 s91 s92 s93 s94 s95 s96 s97 s98 s99 s100 s101 s102 s103 s104 s105 s106 s107 s108 s109 s110 s111 s112 s113 s114 s115 s116 s117 s118 s119 s120 s121 s122 s123 s124 s125 s126 s127 s128 s129 s130 s132 s133 s134 s135 s136 s137 s138 s139 s140 s141 s142 s143 s144 s145 s146 s147 s148 s149 s150 s151 s152 s153 s154 s155 s156 s157 s158 s159 s160 s161 s162 s163 s164 s165 s166 s167 s168 s169 s170 s171 s172 s173 s174 s175 s176 s177 s178 s179 s180 s181 s182 s183 s184 s185 s186 s187 s188 s189 s190 s191 s192 s193 s194 s195 s196 s197 s198 s199 s200 s201 s202 s203 s204 s205 s206 s207 s208 s209 s210 s211 s212 s213 s214 s215 s216 s217 s218 s219 s220 s221 s222 s223 s224 s225 s226 s227 s228 s229 s230 s231 s232 s233 s234 s235 s236 s237 s238 s239 s240 s241 s242 s243 s244 s245 s246 s247 s248 s249 s250 s251 s252 s253 : Value} {w W : World} {rb b5 i : Nat} {x : Act} {R : Rg} {cl : Cl} {g0 was away : List Top} {oth : ByteArray} {pw : Option Addr} {cw : Nat} {va : Value} (P : SwPre w W rb b5 x R cl g0 was away oth (.slice pw was.length cw) va i)
    (hK : ∀ (u2 u9 u11 u12 u13 u14 u15 u52 u53 u54 u55 u56 u57 u58 u59 u60 u61 u62 u63 u64 u65 u66 u67 u68 u69 u70 u71 u72 u73 u74 u75 u76 u77 u78 u79 u80 u81 u82 u83 u84 u85 u86 u87 u88 u89 u90 u91 u92 u93 u94 u95 u96 u97 u98 u99 u100 u101 u102 u103 u104 u105 u106 u107 u108 u109 u110 u111 u112 u113 u114 u115 u116 u117 u118 u119 u120 : Value) (wc : World), AftSw w rb [(b5, .cells #[.int .i64 x.kind, .string x.client, .string x.name, .int .i64 x.id] 36)] R x.client g0 was away (.slice pw was.length cw) va i u9 wc → K ⟨#[s0, s1, u2, ptrV rb, s4, .pointer (some ⟨b5, 0, none⟩), .slice pw was.length cw, .string oth, va, u9, s10, u11, u12, u13, u14, u15, s16, s17, s18, s19, s20, s21, s22, s23, s24, s25, s26, s27, s28, s29, s30, s31, s32, s33, s34, s35, s36, s37, s38, s39, s40, s41, s42, s43, s44, s45, s46, s47, s48, s49, s50, s51, u52, u53, u54, u55, u56, u57, u58, u59, u60, u61, u62, u63, u64, u65, u66, u67, u68, u69, u70, u71, u72, u73, u74, u75, u76, u77, u78, u79, u80, u81, u82, u83, u84, u85, u86, u87, u88, u89, u90, u91, u92, u93, u94, u95, u96, u97, u98, u99, u100, u101, u102, u103, u104, u105, u106, u107, u108, u109, u110, u111, u112, u113, u114, u115, u116, u117, u118, u119, u120, s121, s122, s123, s124, s125, s126, s127, s128, s129, s130, .bool false, s132, s133, s134, s135, s136, s137, s138, s139, s140, s141, s142, s143, s144, s145, s146, s147, s148, s149, s150, s151, s152, s153, s154, s155, s156, s157, s158, s159, s160, s161, s162, s163, s164, s165, s166, s167, s168, s169, s170, s171, s172, s173, s174, s175, s176, s177, s178, s179, s180, s181, s182, s183, s184, s185, s186, s187, s188, s189, s190, s191, s192, s193, s194, s195, s196, s197, s198, s199, s200, s201, s202, s203, s204, s205, s206, s207, s208, s209, s210, s211, s212, s213, s214, s215, s216, s217, s218, s219, s220, s221, s222, s223, s224, s225, s226, s227, s228, s229, s230, s231, s232, s233, s234, s235, s236, s237, s238, s239, s240, s241, s242, s243, s244, s245, s246, s247, s248, s249, s250, s251, s252, s253], []⟩ wc) :
    Code.wp Try.prog (ifAt Try.f4 131) (Exit.then K Q) ⟨#[s0, s1, s2, ptrV rb, s4, .pointer (some ⟨b5, 0, none⟩), .slice pw was.length cw, .string oth, va, s9, s10, s11, s12, s13, s14, s15, s16, s17, s18, s19, s20, s21, s22, s23, s24, s25, s26, s27, s28, s29, s30, s31, s32, s33, s34, s35, s36, s37, s38, s39, s40, s41, s42, s43, s44, s45, s46, s47, s48, s49, s50, s51, s52, s53, s54, s55, s56, s57, s58, s59, s60, s61, s62, s63, s64, s65, s66, s67, s68, s69, s70, s71, s72, s73, s74, s75, s76, s77, s78, s79, s80, s81, s82, s83, s84, s85, s86, s87, s88, s89, s90, s91, s92, s93, s94, s95, s96, s97, s98, s99, s100, s101, s102, s103, s104, s105, s106, s107, s108, s109, s110, s111, s112, s113, s114, s115, s116, s117, s118, s119, s120, s121, s122, s123, s124, s125, s126, s127, s128, s129, s130, .bool false, s132, s133, s134, s135, s136, s137, s138, s139, s140, s141, s142, s143, s144, s145, s146, s147, s148, s149, s150, s151, s152, s153, s154, s155, s156, s157, s158, s159, s160, s161, s162, s163, s164, s165, s166, s167, s168, s169, s170, s171, s172, s173, s174, s175, s176, s177, s178, s179, s180, s181, s182, s183, s184, s185, s186, s187, s188, s189, s190, s191, s192, s193, s194, s195, s196, s197, s198, s199, s200, s201, s202, s203, s204, s205, s206, s207, s208, s209, s210, s211, s212, s213, s214, s215, s216, s217, s218, s219, s220, s221, s222, s223, s224, s225, s226, s227, s228, s229, s230, s231, s232, s233, s234, s235, s236, s237, s238, s239, s240, s241, s242, s243, s244, s245, s246, s247, s248, s249, s250, s251, s252, s253], []⟩ W := by
  conv => arg 2; whnf
  have HK := Lib.hid hK
  clear hK
  have hsz : x.name.size ≤ 9223372036854775807 := by have := P.hx.2; omega
  have Hsz := Lib.hid hsz
  have hwl : was.length ≤ 80 := by have := P.wasl; have := P.hi; omega
  clear hsz
  have hreg := reg_was (was := was) P.hcl x.name (by rw [P.hcg]; have := P.wasl; have := P.hi; omega) (by rw [P.hwas, P.hcg])
  rw [P.hcg] at hreg
  obtain ⟨id, fr, f, gt, hr1, hr2, hr3, hr4, hr5⟩ := hreg
  have hgl := regF_len g0 x.name
  rw [hr1] at hgl
  simp only at hgl
  have c5 := rowC (P.hS.prot _ (.head _)).1
  have D := solo_reg P.hS x.client x.name Hsz.out
  rw [← P.hg0, hr1] at D
  have Hr4 := Lib.hid hr4
  have Hr5 := Lib.hid hr5
  clear hr4 hr5
  simp only at D
  go_wp2_with fail
  refine D.mono ?_
  rintro e W4 ⟨rfl, R4, hS4, st4, hg4⟩
  clear D c5
  have c5 := rowC (hS4.prot _ (.head _)).1
  have hout := Lib.hid (AftSw.mk (i := i) (g0 := g0) (n := f) hS4 st4 hg4 P.hw P.ha hr2 (by have := P.wasl.2; omega))
  have hw4 := P.hw.step st4
  have HS4 := Lib.hid hS4
  have Hw4 := Lib.hid hw4
  clear hr1 hr2 hgl hS4 st4 hg4 hw4
  have hn4 := name4_walk x.name W4 Hsz.out
  go_upto_region 17 with fail
  go_cut [79] from 52 to 120 (fun bv wx => bv = .bool false ∧ wx = W4)
  case first =>
    clear hout
    rcases hr3 with ⟨rfl, hok⟩ | ⟨rfl, hok, rfl, rfl⟩
    · rw [hok] at hn4
      clear hok
      go_wp2_with (go_at_call 17; refine hn4.mono ?_; rintro e w' ⟨rfl, rfl⟩)
      go_meet
      exact ⟨rfl, rfl⟩
    · rw [hok] at hn4
      clear hok
      go_wp2_with (go_at_call 17; refine hn4.mono ?_; rintro e w' ⟨rfl, rfl⟩)
      go_meet
      exact ⟨rfl, rfl⟩
  case rest =>
    obtain ⟨rfl, rfl⟩ := hcut
    clear hr3 hn4
    go_wp2_with fail
    go_loopg [14, 15] was.length (fun gq fv s wr2 => ∃ (k : Nat) (fq : Int), s = .int .i64 k ∧ fv = .int .i64 fq ∧ k ≤ was.length ∧ gq = was.length - k ∧ FreeAt was k fq ∧ Fr (fun _ => False) wc wr2)
    case atStart => exact ⟨0, 1, rfl, rfl, Nat.zero_le _, rfl, FreeAt.zero _, Fr.refl _ _⟩
    case round =>
      clear c5
      obtain ⟨k, fq, rfl, rfl, hkl, hgq, hfa, hf2⟩ := hrel
      have hq1 := hfa.pos
      have hq2 : fq ≤ 100 := by have := hfa.le; omega
      have Hfa := Lib.hid hfa
      have Hgq := Lib.hid hgq
      clear hfa hgq
      by_cases hkt : k < was.length
      · have hkt2 : (k : Int) < (was.length : Int) := by omega
        have ht : was[k]? = some was[k] := List.getElem?_eq_getElem hkt
        generalize was[k] = t at ht
        obtain ⟨bw, rfl, y1, y2, y3⟩ := (Hw4.out.1.kept hf2 (fun _ _ h => h)).at ht
        have hm4 := Hr4.out t (List.mem_of_getElem? ht)
        have hnx := Hfa.out.next ht (by rw [P.hwas, ← P.hcg]; exact srtT_pw P.hcl)
        have Hm4 := Lib.hid hm4
        have Hnx := Lib.hid hnx
        have c5 := rowC ((HS4.out.still hf2).prot _ (.head _)).1
        have hmb := beq_toList t.name x.name
        clear ht hm4 hnx
        have hend : ∀ nq, Fr (fun _ => False) wc (wr.drewN nq) := fun nq => hf2.trans (Fr.drewN (fun _ => False) _ _) (fun _ _ h => h)
        have Hend := Lib.hid hend
        clear hend
        go_upto_region 23 with fail
        go_cut [105] from 80 to 114 (fun bv wx => bv = .bool false ∧ ∃ nq, wx = wr.drewN nq)
        case first =>
          by_cases hm : t.name = x.name
          · rw [decide_eq_true hm] at hmb
            obtain ⟨hfr, hid⟩ := Hm4.out hm
            have hidb : (id != t.id) = false := by rw [hid]; simp
            clear hm hid
            subst hfr
            go_quiet (fail)
            go_wp2_with fail
            go_meet
            exact ⟨rfl, _, rfl⟩
          · rw [decide_eq_false hm] at hmb
            clear hm
            go_quiet (fail)
            go_wp2_with fail
            go_meet
            exact ⟨rfl, _, rfl⟩
        case rest =>
          clear hmb
          obtain ⟨rfl, nq, rfl⟩ := hcut
          by_cases htf : t.id = fq
          · have htb : (t.id == fq) = true := beq_iff_eq.2 htf
            have Htf := Lib.hid htf
            clear htf
            go_wp2_with fail
            go_roundg (was.length - (k + 1))
            case measure => have := Hgq.out; omega
            case rel => exact ⟨k + 1, fq + 1, rfl, rfl, by omega, rfl, by have := Hnx.out; rw [if_pos Htf.out] at this; exact this, Hend.out _⟩
          · have htb : (t.id == fq) = false := beq_eq_false_iff_ne.2 htf
            have Htf := Lib.hid htf
            clear htf
            go_wp2_with fail
            go_roundg (was.length - (k + 1))
            case measure => have := Hgq.out; omega
            case rel => exact ⟨k + 1, fq, rfl, rfl, by omega, rfl, by have := Hnx.out; rw [if_neg Htf.out] at this; exact this, Hend.out _⟩
      · have hkt2 : ¬ (k : Int) < (was.length : Int) := by omega
        have hkw : k = was.length := by omega
        subst hkw
        have hlast : lfO g0 = fq := by rw [lfO_eq]; exact Hfa.out.last (by rw [P.hwas]; exact srtT_perm g0) (by omega)
        have hfin := Lib.hid (hout.out.still hf2)
        have hidb : fr = true → (id != fq) = false := fun h => by rw [Hr5.out h, hlast]; simp
        have Hidb := Lib.hid hidb
        clear hlast hidb
        cases fr with
        | true =>
          have hid := Hidb.out rfl
          go_wp2_with fail
          apply HK.out
          exact hfin.out
        | false =>
          go_wp2_with fail
          apply HK.out
          exact hfin.out
end Go.Proofs.Ytfgnipcegnoagaa
