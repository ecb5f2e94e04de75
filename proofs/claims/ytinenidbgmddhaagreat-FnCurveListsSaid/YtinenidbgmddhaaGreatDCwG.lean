/- What the reference says of lists of curves. No condition. -/
import Derived.Test.YtinenidbgmddhaaGreatDCvE
import Derived.Test.YtinenidbgmddhaaGreatDCuI
import Derived.Test.YtinenidbgmddhaaGreatDDgC
set_option linter.unusedVariables false
set_option linter.unusedSimpArgs false
namespace Go.Proofs.YtinenidbgmddhaaGreat
set_option maxRecDepth 100000
set_option maxHeartbeats 20000000
open Go.Pv
open Go.ChangeShapes Go.WideShapes Go.ChangeAt Go.RowKit
attribute [local irreducible] Za WpA Zk Z3 Zv Zb Zh U8
attribute [local irreducible] decStrict decFalls decIsBr decWithin Xh Xw Zx Xf Vq
theorem Zm8 {id:Nat} {A2 M2:List (List Int)} {ds es:List D} (h:ds=LLs A2) (h2:es=LL M2):AV.own id (.pt true [.sl true 1 ds,.sl true 1 es])=AV.own id (.pt true [.sl true 1 (LLs A2),.sl true 1 (LL M2)]):=by rw [h,h2]
theorem Zy7 (B:List (List Int)) {j:Nat} (h:j < B.length):LLs (B.take j)++[D.sl false 1 (Zi (B.getD (j*1) []))]=LLs (B.take (j+1)):=Zuy B h
theorem takeM (C:List (List Int)) {j:Nat} (h:j < C.length):(C.take j).map (·++[0])++[C.getD (j*1) []++[0]]=(C.take (j+1)).map (·++[0]):=by
 rw [<- Zex C h,List.map_append]; rfl
theorem Zyb (A:List (List Int)) (b:List Int):LLs A++[D.sl false 1 (Zi b)]=LLs (A++[b]):=by simp
theorem Zo5 (A:List (List Int)) (b:List Int):LL A++[D.sl true 1 (Zi b)]=LL (A++[b]):=by simp [LL]
theorem Zm9 (B M:List (List Int)) (b r:List Int):D.erases [D.sl true 1 (LLs B++[D.sl false 1 (Zi b)]),D.sl true 1 (LL M++[D.sl true 1 (Zi r)])]=[.sl false 1 (LLs (B++[b])),.sl false 1 (LLs (M++[r]))]:=by
 rw [Zyb,Zo5]
 simp only [D.erases,D.erase,eN_,eM_]
theorem Zy8 (m:Int) (hm:0<=m /\ m<=10) (Bs:List (List Int)) (hBs:Bs.length<=1000):∀ f fr,Zy0 m Bs fr (Zh2 m Bs f fr)
  | 0,fr,B,C,T,out,res,h,he=>by simp [Zh2] at he
  | f+1,fr,B,C,T,out,res,h,he=>by
    have h6:=h.n6
    have hMu:=Zdx B C h.mu
    rw [<- Zos h] at hMu
    have hrec:=λi=>Zy1 m hm Bs i (Zh2 m Bs f i) (Zy8 m hm Bs hBs f i)
    rw [Zh2] at he
    by_cases hlo:1000 < out.length
    · rw [if_pos hlo] at he; cases he
    rw [if_neg hlo] at he
    have hol:=Zq out
    by_cases h0:0 < B.length
    · by_cases hge:m<=muT T C B.length
      · rw [if_pos (.inr ⟨h0,hge⟩)] at he
        simp only [Option.some.injEq] at he
        clear hrec h
        generalize muT T C B.length=mu at *
        by_cases hme:mu=m
        · rw [if_pos ⟨h0,hme⟩] at he
          rw [<- he]
          clear he
          change U8 _ _ [_,_,_,_,.mv (.one (.sl true 2 (Zw out)))] [.one (.sl true 2 (Zw (out++[(B,C)])))]
          rw [<- Zov]
          generalize Zw out=O at *
          refine U9 _ Tryz.func61 rfl Tryz.ntmps61 rfl ?_
          repeat' (first|(refine w2_ ?_ ?_<;>intro _)|(guard_target =~ Zd; first|refine Za.cons (sC_ (hMu) (.sh .nil) (.shAgg rfl gA_ .nil) rfl) ?_)|(guard_target =~ IsN; first|refine Za.cons (Zo (ds:=[.sl false 1 (LLs B),.sl false 1 (LLs C)]) (.als rfl rfl) (.own rfl) q9 rfl) ?_)|refine goA ?_|(guard_target =~ IsG; first|refine psA ?_|(guard_target =~ Z4; first|refine Za.doit rfl rfl (sC_ (hMu) (.sh .nil) (.shAgg rfl gA_ .nil) rfl) ?_)|refine Za.doit rfl rfl (Zo (ds:=[.sl false 1 (LLs B),.sl false 1 (LLs C)]) (.als rfl rfl) (.own rfl) q9 rfl) ?_|refine gdA ?_)|(refine neA ?_; first|refine nxA ?_|refine Zb.ret (.one rA_ .nil) (.sh (.sh (.sh (.sh (.mv .nil))))) ?_ rfl)|fail)
          all_goals first|rfl|(exfalso; omega; done)|skip
        · rw [if_neg (λq=>hme q.2)] at he
          subst he
          generalize Zw out=O at *
          refine U9 _ Tryz.func61 rfl Tryz.ntmps61 rfl ?_
          repeat' (first|(refine w2_ ?_ ?_<;>intro _)|(guard_target =~ Zd; first|refine Za.cons (sC_ (hMu) (.sh .nil) (.shAgg rfl gA_ .nil) rfl) ?_)|refine goA ?_|(guard_target =~ IsG; first|refine psA ?_|(guard_target =~ Z4; first|refine Za.doit rfl rfl (sC_ (hMu) (.sh .nil) (.shAgg rfl gA_ .nil) rfl) ?_)|refine gdA ?_)|(refine neA ?_; first|refine nxA ?_|refine Zb.ret (.one rA_ .nil) (.sh (.sh (.sh (.sh (.mv .nil))))) ?_ rfl)|fail)
          all_goals first|rfl|(exfalso; omega)
      · by_cases hr6:B.length=6
        · rw [if_pos (.inl hr6)] at he
          simp only [Option.some.injEq] at he
          rw [if_neg (λq=>hge (Int.le_of_eq q.2.symm))] at he
          subst he
          clear hrec h
          generalize muT T C B.length=mu at *
          generalize Zw out=O at *
          refine U9 _ Tryz.func61 rfl Tryz.ntmps61 rfl ?_
          repeat' (first|(refine w2_ ?_ ?_<;>intro _)|(guard_target =~ Zd; first|refine Za.cons (sC_ (hMu) (.sh .nil) (.shAgg rfl gA_ .nil) rfl) ?_)|refine goA ?_|(guard_target =~ IsG; first|refine psA ?_|(guard_target =~ Z4; first|refine Za.doit rfl rfl (sC_ (hMu) (.sh .nil) (.shAgg rfl gA_ .nil) rfl) ?_)|refine gdA ?_)|(refine neA ?_; first|refine nxA ?_|refine Zb.ret (.one rA_ .nil) (.sh (.sh (.sh (.sh (.mv .nil))))) ?_ rfl)|fail)
          all_goals first|rfl|(exfalso; omega)
        · rw [if_neg (λq=>q.elim hr6 (λq=>hge q.2))] at he
          have hlk:=λt i=>h.ext (t:=t) (b:=Bs.getD i [])
          have hcl:=h.cl
          have hrl:=λk (hk:k < B.length)=>h.rl k hk
          clear h
          generalize muT T C B.length=mu at *
          refine U9 _ Tryz.func61 rfl Tryz.ntmps61 rfl ?_
          repeat' (first|(refine w2_ ?_ ?_<;>intro _)|(guard_target =~ Zd; first|refine Za.cons (sC_ (hMu) (.sh .nil) (.shAgg rfl gA_ .nil) rfl) ?_)|refine goA ?_|(guard_target =~ IsG; first|refine psA ?_|(guard_target =~ Z4; first|refine Za.doit rfl rfl (sC_ (hMu) (.sh .nil) (.shAgg rfl gA_ .nil) rfl) ?_)|refine gdA ?_)|(refine neA ?_; first|refine nxA ?_|refine Zb.ret (.one rA_ .nil) (.sh (.sh (.sh (.sh (.mv .nil))))) ?_ rfl)|fail)
          all_goals try (exfalso; omega)
          refine WpA.loop_slots (ι:=Nat × List CuP × Nat) (λq=>[(0,vLL Bs),(3,vQJ m),(4,.own q.2.2 (.sl true 2 (Zw q.2.1))),(7,.own 5 (.pt true [.sl false 1 (LLs B),.sl false 1 (LLs C)])),(11,vQJ B.length),(12,vQJ q.1)]) (λq=>q.2.1.length<=q.2.1.length /\ lpS (λi out=>match lk8 (Bs.getD i []) with
            | none=>none
            | some t=>Zgr (m+6) (Zh2 m Bs f i) B.length (B++[Bs.getD i []]) (Zaa C) (T++[t]) 0 out) (Bs.length - q.1) q.1 q.2.1=some res) (λq=>Bs.length - q.1) (fr,out,_) ⟨by simp,he⟩ ⟨rfl,rfl,xR_,rfl,rfl,rfl,trivial⟩ ?_
          rintro ⟨i,ou,i4⟩ s nx ⟨_,hq⟩
          clear he
          dsimp only at hq ⊢
          by_cases hi:i < Bs.length
          · rw [show Bs.length - i=(Bs.length - (i+1))+1 by omega,lpS] at hq
            cases hl:lk8 (Bs.getD i []) with
            | none=>rw [hl] at hq; simp at hq
            | some t =>
              rw [hl] at hq
              cases hco:Zgr (m+6) (Zh2 m Bs f i) B.length (B++[Bs.getD i []]) (Zaa C) (T++[t]) 0 ou with
              | none=>simp only [hco,Option.bind_none] at hq; cases hq
              | some o2 =>
                simp only [hco,Option.bind_some] at hq
                have hR:=hrec i B.length (B++[Bs.getD i []]) (Zaa C) (T++[t]) 0 ou o2 (hlk t i (Zmn hl) j2) (by simp) hco
                rw [show ((0:Nat):Int)=0 from rfl,show Bs.getD i []=Bs.getD (i*1) [] by rw [Nat.mul_one]] at hR
                change U8 _ _ [_,_,_,_,_,.mv (.one (.sl true 2 (Zw ou)))] _ at hR
                clear hrec hlk hco hl
                generalize hOu:Zw ou=O at *
                repeat' (first|(refine w2_ ?_ ?_<;>intro _)|refine goA ?_|(guard_target =~ IsG; first|refine psA ?_|refine gdA ?_)|(refine neA ?_; first|refine nxA ?_|refine Zb.ret (.one rA_ .nil) (.sh (.sh (.sh (.sh (.mv .nil))))) ?_ rfl)|fail)
                all_goals try (exfalso; omega)
                refine WpA.loop_slots2 (λk i13=>[(0,vLL Bs),(3,vQJ m),(4,.own i4 (.sl true 2 O)),(7,.own 5 (.pt true [.sl false 1 (LLs B),.sl false 1 (LLs C)])),(11,vQJ B.length),(12,vQJ i),(13,.own i13 (.pt true [.sl true 1 (LLs (B.take k)),.sl true 1 (LL ((C.take k).map (·++[0])))])),(14,vQJ k)]) (λk=>k<=B.length) (λk=>B.length - k) 0 _ j2 ⟨rfl,rfl,xR_,rfl,rfl,rfl,xR_,rfl,trivial⟩ ?_
                intro k i13 s nx hk
                have lA:(B.take k).length=k:=by rw [List.length_take]; omega
                have lM:((C.take k).map (·++[(0:Int)])).length=k:=by rw [List.length_map,List.length_take]; omega
                by_cases hkl:k < B.length
                · have e1:=Zy7 B hkl
                  have e2:=takeM C (j:=k) j2
                  have hrk:(C.getD (k*1) []).length=B.length:=by rw [Nat.mul_one]; exact hrl k hkl
                  have hO:=V1 (C.getD (k*1) []) j2
                  clear hR hrl hq
                  generalize hA2:B.take (k+1)=A2 at *
                  generalize hM2:(C.take (k+1)).map (·++[(0:Int)])=M2 at *
                  generalize B.take k=A at *
                  generalize (C.take k).map (·++[(0:Int)])=M at *
                  have q1:LLs A++[D.sl false 1 (Zi (B.getD (k*1) []))]=LLs (List.take (k+1) B):=e1.trans (by rw [hA2])
                  have q2:LL M++[D.sl true 1 (Zi (C.getD (k*1) []++[0]))]=LL ((List.take (k+1) C).map (·++[0])):=(Zo5 M _).trans (by rw [e2,hM2])
                  repeat' (first|(refine w2_ ?_ ?_<;>intro _)|(guard_target =~ Zd; first|refine Za.cons (sC_ (hO) (.sh .nil) (.sh wS_ .nil) rfl) ?_)|(guard_target =~ IsN; first|refine Za.cons (Zo (.part rfl rfl rfl) (.own rfl) q9 rfl) ?_)|refine goA ?_|(guard_target =~ IsG; first|refine psA ?_|(guard_target =~ Z4; first|refine Za.doit rfl rfl (sC_ (hO) (.sh .nil) (.sh wS_ .nil) rfl) ?_)|refine Za.doit rfl rfl (Zo (.part rfl rfl rfl) (.own rfl) q9 rfl) ?_|refine gdA ?_)|(refine neA ?_; first|refine nxA ?_|refine Zb.ret (.one rA_ .nil) (.sh (.sh (.sh (.sh (.mv .nil))))) ?_ rfl)|fail)
                  all_goals try (exfalso; omega)
                  all_goals exact ⟨k+1,by omega,⟨_,rfl,rfl,rfl,rfl,rfl,rfl,by exact Zm8 q1 q2,Zc j2,trivial⟩,by omega⟩
                · obtain rfl:k=B.length:=by omega
                  have eC:C.take B.length=C:=by rw [<- hcl]; exact List.take_length
                  clear lA lM
                  have lM:(C.map (·++[(0:Int)])).length=B.length:=by rw [List.length_map,hcl]
                  rw [List.take_length,eC]
                  have eX:Zaa C=C.map (·++[0])++[List.replicate ((B.length:Int)+1).toNat 0]:=by
                    unfold Zaa
                    rw [hcl]
                    rfl
                  rw [eX] at hR
                  generalize C.map (·++[(0:Int)])=M at *
                  repeat' (first|(refine w2_ ?_ ?_<;>intro _)|(guard_target =~ IsW; first|refine WpA.freezeInC 96 13 [.sl false 1 (LLs (B++[Bs.getD (i*1) []])),.sl false 1 (LLs (M++[List.replicate ((B.length:Int)+1).toNat 0]))] rfl rfl rfl (by exact Zm9 B M _ _) ?_)|(guard_target =~ AtN 101; first|refine Za.consX (J1 (hR) (.sh (.sh (.sh (.sh (.sh (.mv vA_ .nil)))))) (.sh lcA (.sh lcA (.sh (.agg rfl j8) (.sh lcA (.sh lcA (.mv .nil)))))) rfl rfl) ?_)|(guard_target =~ IsN; first|refine Za.cons (Zo (.part rfl rfl rfl) (.own rfl) q9 rfl) ?_)|refine goA ?_|(guard_target =~ IsG; first|refine psA ?_|refine Za.doit rfl rfl (Zo (.part rfl rfl rfl) (.own rfl) q9 rfl) ?_|refine gdA ?_)|(refine neA ?_; first|refine nxA ?_|refine Zb.ret (.one rA_ .nil) (.sh (.sh (.sh (.sh (.mv .nil))))) ?_ rfl)|fail)
                  all_goals try (exfalso; omega)
                  all_goals exact ⟨(i+1,o2,_),⟨by simp,hq⟩,⟨rfl,rfl,xR_,rfl,rfl,Zc (by simp),trivial⟩,by simp only; omega⟩
          · rw [show Bs.length - i=0 by omega,lpS] at hq
            simp only [Option.some.injEq] at hq
            subst hq
            clear hrec hlk hrl
            repeat' (first|(refine w2_ ?_ ?_<;>intro _)|refine goA ?_|(guard_target =~ IsG; first|refine psA ?_|refine gdA ?_)|(refine neA ?_; first|refine nxA ?_|refine Zb.ret (.one rA_ .nil) (.sh (.sh (.sh (.sh (.mv .nil))))) ?_ rfl)|fail)
            all_goals first|rfl|(exfalso; omega)
    · rw [if_neg (λq=>q.elim j2 (λq=>h0 q.1))] at he
      have hlk:=λt i=>h.ext (t:=t) (b:=Bs.getD i [])
      have hcl:=h.cl
      have hrl:=λk (hk:k < B.length)=>h.rl k hk
      clear h
      generalize muT T C B.length=mu at *
      refine U9 _ Tryz.func61 rfl Tryz.ntmps61 rfl ?_
      repeat' (first|(refine w2_ ?_ ?_<;>intro _)|refine goA ?_|(guard_target =~ IsG; first|refine psA ?_|refine gdA ?_)|(refine neA ?_; first|refine nxA ?_|refine Zb.ret (.one rA_ .nil) (.sh (.sh (.sh (.sh (.mv .nil))))) ?_ rfl)|fail)
      all_goals try (exfalso; omega)
      refine WpA.loop_slots (ι:=Nat × List CuP × Nat) (λq=>[(0,vLL Bs),(3,vQJ m),(4,.own q.2.2 (.sl true 2 (Zw q.2.1))),(7,.own 5 (.pt true [.sl false 1 (LLs B),.sl false 1 (LLs C)])),(11,vQJ B.length),(12,vQJ q.1)]) (λq=>q.2.1.length<=q.2.1.length /\ lpS (λi out=>match lk8 (Bs.getD i []) with
        | none=>none
        | some t=>Zgr (m+6) (Zh2 m Bs f i) B.length (B++[Bs.getD i []]) (Zaa C) (T++[t]) 0 out) (Bs.length - q.1) q.1 q.2.1=some res) (λq=>Bs.length - q.1) (fr,out,_) ⟨by simp,he⟩ ⟨rfl,rfl,xR_,rfl,rfl,rfl,trivial⟩ ?_
      rintro ⟨i,ou,i4⟩ s nx ⟨_,hq⟩
      clear he
      dsimp only at hq ⊢
      by_cases hi:i < Bs.length
      · rw [show Bs.length - i=(Bs.length - (i+1))+1 by omega,lpS] at hq
        cases hl:lk8 (Bs.getD i []) with
        | none=>rw [hl] at hq; simp at hq
        | some t =>
          rw [hl] at hq
          cases hco:Zgr (m+6) (Zh2 m Bs f i) B.length (B++[Bs.getD i []]) (Zaa C) (T++[t]) 0 ou with
          | none=>simp only [hco,Option.bind_none] at hq; cases hq
          | some o2 =>
            simp only [hco,Option.bind_some] at hq
            have hR:=hrec i B.length (B++[Bs.getD i []]) (Zaa C) (T++[t]) 0 ou o2 (hlk t i (Zmn hl) j2) (by simp) hco
            rw [show ((0:Nat):Int)=0 from rfl,show Bs.getD i []=Bs.getD (i*1) [] by rw [Nat.mul_one]] at hR
            change U8 _ _ [_,_,_,_,_,.mv (.one (.sl true 2 (Zw ou)))] _ at hR
            clear hrec hlk hco hl
            generalize hOu:Zw ou=O at *
            repeat' (first|(refine w2_ ?_ ?_<;>intro _)|refine goA ?_|(guard_target =~ IsG; first|refine psA ?_|refine gdA ?_)|(refine neA ?_; first|refine nxA ?_|refine Zb.ret (.one rA_ .nil) (.sh (.sh (.sh (.sh (.mv .nil))))) ?_ rfl)|fail)
            all_goals try (exfalso; omega)
            refine WpA.loop_slots2 (λk i13=>[(0,vLL Bs),(3,vQJ m),(4,.own i4 (.sl true 2 O)),(7,.own 5 (.pt true [.sl false 1 (LLs B),.sl false 1 (LLs C)])),(11,vQJ B.length),(12,vQJ i),(13,.own i13 (.pt true [.sl true 1 (LLs (B.take k)),.sl true 1 (LL ((C.take k).map (·++[0])))])),(14,vQJ k)]) (λk=>k<=B.length) (λk=>B.length - k) 0 _ j2 ⟨rfl,rfl,xR_,rfl,rfl,rfl,xR_,rfl,trivial⟩ ?_
            intro k i13 s nx hk
            have lA:(B.take k).length=k:=by rw [List.length_take]; omega
            have lM:((C.take k).map (·++[(0:Int)])).length=k:=by rw [List.length_map,List.length_take]; omega
            by_cases hkl:k < B.length
            · have e1:=Zy7 B hkl
              have e2:=takeM C (j:=k) j2
              have hrk:(C.getD (k*1) []).length=B.length:=by rw [Nat.mul_one]; exact hrl k hkl
              have hO:=V1 (C.getD (k*1) []) j2
              clear hR hrl hq
              generalize hA2:B.take (k+1)=A2 at *
              generalize hM2:(C.take (k+1)).map (·++[(0:Int)])=M2 at *
              generalize B.take k=A at *
              generalize (C.take k).map (·++[(0:Int)])=M at *
              have q1:LLs A++[D.sl false 1 (Zi (B.getD (k*1) []))]=LLs (List.take (k+1) B):=e1.trans (by rw [hA2])
              have q2:LL M++[D.sl true 1 (Zi (C.getD (k*1) []++[0]))]=LL ((List.take (k+1) C).map (·++[0])):=(Zo5 M _).trans (by rw [e2,hM2])
              repeat' (first|(refine w2_ ?_ ?_<;>intro _)|(guard_target =~ Zd; first|refine Za.cons (sC_ (hO) (.sh .nil) (.sh wS_ .nil) rfl) ?_)|(guard_target =~ IsN; first|refine Za.cons (Zo (.part rfl rfl rfl) (.own rfl) q9 rfl) ?_)|refine goA ?_|(guard_target =~ IsG; first|refine psA ?_|(guard_target =~ Z4; first|refine Za.doit rfl rfl (sC_ (hO) (.sh .nil) (.sh wS_ .nil) rfl) ?_)|refine Za.doit rfl rfl (Zo (.part rfl rfl rfl) (.own rfl) q9 rfl) ?_|refine gdA ?_)|(refine neA ?_; first|refine nxA ?_|refine Zb.ret (.one rA_ .nil) (.sh (.sh (.sh (.sh (.mv .nil))))) ?_ rfl)|fail)
              all_goals try (exfalso; omega)
              all_goals exact ⟨k+1,by omega,⟨_,rfl,rfl,rfl,rfl,rfl,rfl,by exact Zm8 q1 q2,Zc j2,trivial⟩,by omega⟩
            · obtain rfl:k=B.length:=by omega
              have eC:C.take B.length=C:=by rw [<- hcl]; exact List.take_length
              clear lA lM
              have lM:(C.map (·++[(0:Int)])).length=B.length:=by rw [List.length_map,hcl]
              rw [List.take_length,eC]
              have eX:Zaa C=C.map (·++[0])++[List.replicate ((B.length:Int)+1).toNat 0]:=by
                unfold Zaa
                rw [hcl]
                rfl
              rw [eX] at hR
              generalize C.map (·++[(0:Int)])=M at *
              repeat' (first|(refine w2_ ?_ ?_<;>intro _)|(guard_target =~ IsW; first|refine WpA.freezeInC 96 13 [.sl false 1 (LLs (B++[Bs.getD (i*1) []])),.sl false 1 (LLs (M++[List.replicate ((B.length:Int)+1).toNat 0]))] rfl rfl rfl (by exact Zm9 B M _ _) ?_)|(guard_target =~ AtN 101; first|refine Za.consX (J1 (hR) (.sh (.sh (.sh (.sh (.sh (.mv vA_ .nil)))))) (.sh lcA (.sh lcA (.sh (.agg rfl j8) (.sh lcA (.sh lcA (.mv .nil)))))) rfl rfl) ?_)|(guard_target =~ IsN; first|refine Za.cons (Zo (.part rfl rfl rfl) (.own rfl) q9 rfl) ?_)|refine goA ?_|(guard_target =~ IsG; first|refine psA ?_|refine Za.doit rfl rfl (Zo (.part rfl rfl rfl) (.own rfl) q9 rfl) ?_|refine gdA ?_)|(refine neA ?_; first|refine nxA ?_|refine Zb.ret (.one rA_ .nil) (.sh (.sh (.sh (.sh (.mv .nil))))) ?_ rfl)|fail)
              all_goals try (exfalso; omega)
              all_goals exact ⟨(i+1,o2,_),⟨by simp,hq⟩,⟨rfl,rfl,xR_,rfl,rfl,Zc (by simp),trivial⟩,by simp only; omega⟩
      · rw [show Bs.length - i=0 by omega,lpS] at hq
        simp only [Option.some.injEq] at hq
        subst hq
        clear hrec hlk hrl
        repeat' (first|(refine w2_ ?_ ?_<;>intro _)|refine goA ?_|(guard_target =~ IsG; first|refine psA ?_|refine gdA ?_)|(refine neA ?_; first|refine nxA ?_|refine Zb.ret (.one rA_ .nil) (.sh (.sh (.sh (.sh (.mv .nil))))) ?_ rfl)|fail)
        all_goals first|rfl|(exfalso; omega)
end Go.Proofs.YtinenidbgmddhaaGreat
namespace Go.Pv
set_option maxRecDepth 100000
section
variable {P:Program} {n:NN} {nid nx:Nat} {st:Nat->AV} {f:Fr} {X:Nat->Prop} {a:Act} {w:World} {ρ:Nat->Rho} {L:Nat->List Nat}
theorem Zha {cs:List D} {N d t l h:Nat} {T:TypeId} {lo hi:Option Operand} {r1 r2:List Nat} {ty pos aft g} [Zz P T 2] (ht:st t=.c (.sl false 2 cs)) (hN:cs.length=N*2) (hlo:BdL st lo r1 l) (hhi:BdH st N hi r2 h) (h1:l<=h) (h2:h<=N) (hd:n d=true) :
  Zk P n ⟨some d,.slice T (.tmp t) lo hi none,ty,pos,aft,g⟩ nid st (t :: (r1++r2)) [(d,.c (.sl false 2 ((cs.drop (l*2)).take ((h - l)*2))))]:=by
 intro X st' hs hX f a w hn hrep K Q hK
 obtain ⟨ρ,L,hr⟩:=hrep
 subst hn
 have hv:=hr.slots t
 rw [(hs t (by simp)).trans ht] at hv
 simp only [SR,RD] at hv
 obtain ⟨_,r,_,us,hsh,h5⟩:=hv
 have hl:=h5.length
 have hsh':=hsh
 obtain ⟨a0,n0,c0,e0,e1,e2,e3,_⟩:=hsh
 have en:n0=N:=by omega
 subst en
 have k1:=(hlo.agree λs hs'=>hs s p9).eval hr
 have k2:=(hhi.agree λs hs'=>hs s p9).eval hr
 refine wV_ (u:=.slice (if c0=l then a0 else a0.map (·.add (l*2))) (h - l) (c0 - l)) (w':=w) ?_ (hr.done_light hK hd _ w (Z0.refl w) ?_ u5)
 ·have e1:a.eval (.tmp t)=_:=e0
  simp only [execOp,e1,Option.map_none,Sem.run_bind,Vp w a0 n0 c0 l h _ _ k1 k2 h1 h2 j2,Result.andThen_ok,Sem.run_pure]
 ·simp only [SR]
  obtain ⟨r',hr'⟩:=RDs.cut (l*2) ((h - l)*2) _ _ _ _ h5
  refine ⟨trivial,r',?_⟩
  simp only [RD]
  exact ⟨trivial,_,hsh'.cut (lo:=l) e0 j2 j2 j2 (λhne=>by rw [if_neg j2]),hr'⟩
theorem WpA.freezeC {Q:Exit->(Nat->AV)->Nat->Prop} {c:Code} (t x:Nat) {id:Nat} {d:D} (d':D) (ht:Zaz c=some t) (hS:n.S=[]) (hx:st x=.own id d) (he:d.erase=d') (h:WpA P n c (put st x (.c d')) nx Q):WpA P n c st nx Q:=by
 subst he
 exact WpA.freeze x hS hx h
theorem Xu {d sz:Nat} {T:TypeId} {ty pos aft g} [hT:Zz P T sz] (hd:n d=true) :
  Zk P n ⟨some d,.buildSlice T 0 #[],ty,pos,aft,g⟩ nid st [] [(d,.own nid (.sl true sz []))]:=by
 intro X st' hs hX f a w hn hrep K Q hK
 obtain ⟨ρ,L,hr⟩:=hrep
 subst hn
 obtain ⟨e,i,z,t1,t2,t3,t6,t7,_,t4,t5⟩:=hT.out
 have hrun:(Instr.buildSlice T 0 #[]).run P w=.ok (.slice (some ⟨w.heap.size,0,none⟩) 0 0) (w.alloc (.cells #[] e)):=by
  simp [Instr.buildSlice,run_underlying t1,sizeOf,typeInfo,zeroValue,t2,t3,t4,newRow,Instr.fill,show ¬ sz=0 from by omega,show ∀ x:Value,Array.map (λ_=>x) (Array.range 0)=#[] from λx=>by simp [Array.range]]
 refine wV_ (u:=.slice (some ⟨w.heap.size,0,none⟩) 0 0) (w':=w.alloc (.cells #[] e)) ?_ (hr.done_new hK hd hX _ _ (Z0.alloc w _) (λ_=>.slice (some ⟨w.heap.size,0,none⟩) 0 0) [w.heap.size] ?_ (by simp) (λg hg=>?_))
 ·simp only [execOp,Array.map_empty,Sem.run_bind,hrun,Result.andThen_ok,Sem.run_pure]
 ·simp only [RD]
  refine ⟨trivial,[],[w.heap.size],[],rfl,.mk0 ⟨w.heap.size,0,0,#[],e,rfl,Vw w _,by simp,Nat.le_refl _,by unfold maxLen; omega,by simp,by simp,rfl⟩,by simp [RDs]⟩
 ·simp only [List.mem_singleton] at hg
  subst hg
  exact ⟨by simp,Nat.le_refl _⟩
theorem VR.grow {F F':Nat->Prop} {w:World} (hF:∀ g,F g->F' g) {v:V} {u:Value} {L0:List Nat} (h:VR F w v u L0):VR F' w v u L0:=by
 cases v with
 | one d=>obtain ⟨r,h⟩:=h; exact ⟨r,RD.same hF (λ_ _=>rfl) _ _ _ _ h (λ_ _=>rfl)⟩
 | agg ds=>obtain ⟨r,us,e,h⟩:=h; exact ⟨r,us,e,RDs.same hF (λ_ _=>rfl) _ _ _ _ _ h (λ_ _=>rfl)⟩
theorem Z8.grow {F F':Nat->Prop} {w:World} (hF:∀ g,F g->F' g):∀ {args:List Arg} {us:List Value} {M:List Nat},Z8 F w args us M->Z8 F' w args us M
 | [],_,_,h=>h
 | x :: args,us,M,h=>by
  simp only [Z8] at h ⊢
  obtain ⟨u,us',L1,L2,e1,e2,h1,h2⟩:=h
  refine ⟨u,us',L1,L2,e1,e2,?_,Z8.grow hF h2⟩
  cases x with
  | sh v=>exact ⟨h1.1,h1.2.grow hF⟩
  | mv v=>exact VR.grow hF h1
  | io d=>obtain ⟨r,h1⟩:=h1; exact ⟨r,RD.same hF (λ_ _=>rfl) _ _ _ _ h1 (λ_ _=>rfl)⟩
theorem VR.frz {F F':Nat->Prop} {w:World} (hF:∀ g,F g->F' g) {v:V} {u:Value} {L0:List Nat} (h:VR F w v u L0) (hL:∀ g ∈ L0,F' g):VR F' w v.erase u []:=by
 cases v with
 | one d=>obtain ⟨r,h⟩:=h; exact ⟨r,RD.erase hF _ _ _ _ h hL⟩
 | agg ds=>obtain ⟨r,us,e,h⟩:=h; exact ⟨r,us,e,RDs.erase hF _ _ _ _ _ h hL⟩
theorem Z8.frz {F:Nat->Prop} {w:World} {v:V} {post:List Arg}:∀ {pre:List Arg} {us:List Value} {M:List Nat},Z8 F w (pre++.mv v :: post) us M->∃ A B C,M=A++(B++C) /\ ∀ F':Nat->Prop,(∀ g,F g->F' g)->(∀ g ∈ B,F' g)->Z8 F' w (pre++.sh v.erase :: post) us (A++C)
 | [],us,M,h=>by
  simp only [List.nil_append,Z8,H7] at h
  obtain ⟨u,us',L1,L2,rfl,rfl,h1,h2⟩:=h
  refine ⟨[],L1,L2,rfl,λF' hF hB=>?_⟩
  simp only [List.nil_append,Z8,H7]
  exact ⟨u,us',[],L2,rfl,rfl,⟨rfl,h1.frz hF hB⟩,h2.grow hF⟩
 | x :: pre,us,M,h=>by
  simp only [List.cons_append,Z8] at h
  obtain ⟨u,us',L1,L2,rfl,rfl,h1,h2⟩:=h
  obtain ⟨A,B,C,rfl,h3⟩:=Z8.frz h2
  refine ⟨L1++A,B,C,by simp,λF' hF hB=>?_⟩
  simp only [List.cons_append,Z8]
  refine ⟨u,us',L1,A++C,rfl,by simp,?_,h3 F' hF hB⟩
  cases x with
  | sh v=>exact ⟨h1.1,h1.2.grow hF⟩
  | mv v=>exact VR.grow hF h1
  | io d=>obtain ⟨r,h1⟩:=h1; exact ⟨r,RD.same hF (λ_ _=>rfl) _ _ _ _ h1 (λ_ _=>rfl)⟩
theorem U8.froze {K:FuncId} (pre:List Arg) {v:V} {post:List Arg} {rs:List V} (h:U8 P K (pre++.sh v.erase :: post) rs):U8 P K (pre++.mv v :: post) rs:=by
 intro w vs M F hF hargs hnd hM
 obtain ⟨A,B,C,rfl,h2⟩:=hargs.frz
 simp only [List.nodup_append,List.mem_append] at hnd
 refine (h w vs (A++C) (λg=>F g \/ g ∈ B) (λg hg=>?_) (h2 _ (λg hg=>.inl hg) (λg hg=>.inr hg)) ?_ (λg hg=>hM g ?_)).mono ?_
 ·rcases hg with hg|hg
  ·exact ⟨(hF g hg).1,λhm=>(hF g hg).2 (by simp only [List.mem_append] at hm ⊢; grind)⟩
  ·exact ⟨hM g u4,λhm=>by simp only [List.mem_append] at hm; grind⟩
 ·simp only [List.nodup_append,List.mem_append]
  grind
 ·simp only [List.mem_append] at hg ⊢; grind
 ·rintro e w' ⟨F',us,Lr,e1,hk,hF1,hF2,hv,hn,hL⟩
  refine ⟨F',us,Lr,e1,⟨hk.os,hk.tape,hk.output,hk.size,λg hg hn=>hk.block g hg (λhm=>hn ?_),hk.drawn⟩,λg hg=>hF1 g (.inl hg),λg hg=>⟨(hF2 g hg).1,?_⟩,hv,hn,λg hg=>⟨(hL g hg).1,(hL g hg).2.1,?_⟩⟩
  ·simp only [List.mem_append] at hm ⊢; grind
  ·rcases (hF2 g hg).2 with (q|q)|q|q
   ·exact .inl q
   ·exact .inr (.inl (by simp [q]))
   ·simp only [List.mem_append] at q ⊢; grind
   ·exact .inr (.inr q)
  ·rcases (hL g hg).2.2 with q|q
   ·simp only [List.mem_append] at q ⊢; grind
   ·exact .inr q
end
end Go.Pv
namespace Go.Proofs.YtinenidbgmddhaaGreat
set_option maxHeartbeats 20000000
open Go.Pv
open Go.ChangeShapes Go.WideShapes Go.ChangeAt Go.RowKit
attribute [local irreducible] Za WpA Zk Z3 Zv Zb Zh Z7 K6 Kb
instance fnOk63:Zp Tryz.prog 63:=⟨_,Tryz.func63,rfl,by decide⟩
instance fnOk27:Zp Tryz.prog 27:=⟨_,Tryz.func27,rfl,by decide⟩
attribute [local irreducible] decStrict decFalls decIsBr decWithin Xh Xw Zx Xf Vq
theorem Jc (c:CuP) (l:List CuP):Zw (c :: l)=.sl false 1 (LLs c.1) :: .sl false 1 (LLs c.2) :: Zw l:=rfl
theorem Hh:∀ (l:List CuP) (k:Nat),(Zw l).drop (k*2)=Zw (l.drop k)
 | l,0=>by simp
 | [],k+1=>by simp [Zw]
 | c :: l,k+1=>by
  rw [Jc,show (k+1)*2=k*2+1+1 by omega,List.drop_succ_cons,List.drop_succ_cons,Hh l k,List.drop_succ_cons]
theorem Hi:∀ (l:List CuP) (k:Nat),(Zw l).take (k*2)=Zw (l.take k)
 | l,0=>by simp [Zw]
 | [],k+1=>by simp [Zw]
 | c :: l,k+1=>by
  rw [Jc,show (k+1)*2=k*2+1+1 by omega,List.take_succ_cons,List.take_succ_cons,Hi l k,List.take_succ_cons,Jc]
abbrev gC (l:List CuP) (j:Nat):CuP:=l.getD j ([],[])
theorem Zsf {l:List CuP} {j:Nat} (h:j < l.length):((Zw l).drop (j*2)).take 2=[.sl false 1 (LLs (gC l j).1),.sl false 1 (LLs (gC l j).2)]:=by
 have e:(l.drop j).take 1=[gC l j]:=by
  rw [List.drop_eq_getElem_cons h,List.take_succ_cons,List.take_zero,gC,List.getD_eq_getElem?_getD,List.getElem?_eq_getElem h]
  rfl
 rw [Hh,show (2:Nat)=1*2 from rfl,Hi,e]
 rfl
section
variable {P:Program} {n:NN} {nid nx:Nat} {st:Nat->AV}
theorem Z2 {d t j:Nat} {T:TypeId} {l:List CuP} {ty pos aft g} [X1 P T 2] (h:st t=.sptr (Zw l) (j*2)) (hj:j < l.length) (hd:n d=true) :
  Zk P n ⟨some d,.load T (.tmp t),ty,pos,aft,g⟩ nid st [t] [(d,.agg [.c (.sl false 1 (LLs (gC l j).1)),.c (.sl false 1 (LLs (gC l j).2))])]:=by
 have:=Qg (P:=P) (n:=n) (nid:=nid) (d:=d) (ty:=ty) (pos:=pos) (aft:=aft) (g:=g) (T:=T) (sz:=2) h (by rw [Zq]; omega) hd
 rwa [Zsf hj] at this
theorem Vm {l0:List CuP} {d t l h:Nat} {T:TypeId} {lo hi:Option Operand} {r1 r2:List Nat} {ty pos aft g} [Zz P T 2] (ht:st t=.c (.sl false 2 (Zw l0))) (hlo:BdL st lo r1 l) (hhi:BdH st l0.length hi r2 h) (h1:l<=h) (h2:h<=l0.length) (hd:n d=true) :
  Zk P n ⟨some d,.slice T (.tmp t) lo hi none,ty,pos,aft,g⟩ nid st (t :: (r1++r2)) [(d,.c (.sl false 2 (Zw ((l0.drop l).take (h - l)))))]:=by
 have:=Zha (P:=P) (n:=n) (nid:=nid) (d:=d) (ty:=ty) (pos:=pos) (aft:=aft) (g:=g) (T:=T) ht (Zq l0) hlo hhi h1 h2 hd
 rwa [Hh,Hi] at this
end
structure OkX (n:Nat) (b:CuP):Prop where
 l1:b.1.length=n
 l2:b.2.length=n
 r1:∀ i,(b.1.getD i []).length<=1000
 r2:∀ i,i < n->(b.2.getD i []).length=n
theorem OkX.cu {n:Nat} {b:CuP} (h:OkX n b) (hn:n<=1000):Zmd n b where
 l1:=h.l1
 l2:=h.l2
 r1:=h.r1
 r2:=λi=>by
  by_cases hi:i < n
  ·rw [h.r2 i hi]; omega
  ·rw [List.getD_eq_getElem?_getD,List.getElem?_eq_none (by have:=h.l2; omega)]; simp
theorem Zvv (B C:List (List Int)) (n:Nat) (hb:∀ i,(B.getD i []).length<=1000) (o:List Int) (ho:o.length=n):OkX n (Uk B C o):=by
 refine ⟨by simp only [Uk,Ux,ho],by simp only [Uk,Uy,ho],λi=>?_,λi hi=>?_⟩
 ·simp only [Uk,pzB,List.getD_eq_getElem?_getD,List.getElem?_map]
  cases (List.range o.length)[i]? with
  | none=>simp
  | some t=>simpa [List.getD_eq_getElem?_getD] using hb _
 ·simp only [Uk,pzC,List.getD_eq_getElem?_getD,List.getElem?_map,List.getElem?_range (show i < o.length by omega),Option.map_some,Option.getD_some]
  rw [Jn,ho]
theorem Zna (B C:List (List Int)) (n:Nat) (hb:∀ i,(B.getD i []).length<=1000):∀ (k:Nat) (b:CuP) (o:List Int),o.length+k=n->OkX n b->OkX n (Zb3 B C n k b o)
 | 0,b,o,ho,h=>by
  rw [Zb3,Zzq]
  split
  ·exact Zvv B C n hb o ho
  ·exact h
 | k+1,b,o,ho,h=>by
  have:∀ j,OkX n (Za3 B C n k b o j):=λj=>by
   induction j with
   | zero=>exact h
   | succ j ih =>
    rw [H0]
    split
    ·exact ih
    ·exact Zna B C n hb k _ _ q9 ih
  exact this n
def OkP (c:CuP):Prop:=∃ n,n<=6 /\ OkX n c
theorem OkP.ls {c:CuP} (h:OkP c):OkP (lsS c.1 c.2):=by
 obtain ⟨n,hn,h⟩:=h
 refine ⟨n,hn,?_⟩
 unfold lsS
 rw [h.l1]
 exact Zna c.1 c.2 n h.r1 n c [] (by simp) h
theorem OkP.key {c:CuP} (h:OkP c):(Xi c.1 c.2).length<=1000000000:=by
 obtain ⟨n,hn,h⟩:=h
 exact Zdb n j2 c (h.cu j2)
theorem OkP.flat {c:CuP} (h:OkP c):Zg Tryz.prog 38 [aCu c.1 c.2] [rL (Xi c.1 c.2)] []:=by
 obtain ⟨n,hn,h⟩:=h
 have h2:=h.cu j2
 exact Zda c.1 c.2 (by rw [h.l1]; omega) (by rw [h.l2]; omega) h2.r1 h2.r2
theorem OkP.least {c:CuP} (h:OkP c):K6 Tryz.prog 39 [aCu c.1 c.2,aCu c.1 c.2,.mv (.one (.sl true 1 []))] [rCuF (lsS c.1 c.2)]:=by
 obtain ⟨n,hn,h⟩:=h
 unfold lsS
 rw [h.l1]
 exact Zgf c.1 c.2 n j2 h.l1 h.l2 h.r1 h.r2 n c [] (by simp) (λi hi=>by simp at hi) (h.cu j2)
theorem OkP.part {c:CuP} (h:OkP c):Zg Tryz.prog 59 [aCu c.1 c.2,aL (Yg c.1.length)] [Q7 c.1 c.2] []:=by
 obtain ⟨n,hn,h⟩:=h
 have hp:=Hz c.1 c.2 (Yg c.1.length) n j2 (by rw [Uf,h.l1]; omega) (λi hi=>by rw [Uf] at hi; rw [Zb7 _ _ hi]; rw [h.l1] at hi; omega) h.l1 h.l2 h.r1 h.r2
 rw [Uf,Zqp,h.l1,Zqq c.2 h.l2 h.r2] at hp
 rw [h.l1]
 exact hp
theorem OkP.len {c:CuP} (h:OkP c):c.1.length<=6:=by
 obtain ⟨n,hn,h⟩:=h
 rw [h.l1]; exact hn
theorem Zvw {c d:CuP} (hc:OkP c) (hd:OkP d):Zg Tryz.prog 63 [aCu c.1 c.2,aCu d.1 d.2] [rB (Zvs c d)] []:=by
 have h1:=hc.flat
 have h2:=hd.flat
 have h3:=Zi0 (Xi c.1 c.2) (Xi d.1 d.2) hc.key hd.key
 have l1:=hc.len
 have l2:=hd.len
 have e:Zvs c d=if c.1.length ≠ d.1.length then decide (c.1.length < d.1.length) else decide (X9 (Xi c.1 c.2) (Xi d.1 d.2) < 0):=rfl
 obtain ⟨c1,c2⟩:=c
 obtain ⟨d1,d2⟩:=d
 dsimp only at *
 rw [e]
 clear e hc hd
 by_cases hne:c1.length=d1.length
 ·rw [if_neg (λh=>h hne)]
  generalize decide (X9 (Xi c1 c2) (Xi d1 d2) < 0)=b at *
  generalize Xi c1 c2=k1 at *
  generalize Xi d1 d2=k2 at *
  refine cA_ _ Tryz.func63 rfl Tryz.ntmps63 sO_ ?_
  repeat' (first|(refine w2_ ?_ ?_<;>intro _)|(guard_target =~ AtN 20; refine Za.cons (sC_ (h1) (.sh .nil) (.shAgg rfl gA_ .nil) rfl) ?_)|(guard_target =~ AtN 22; refine Za.cons (sC_ (h2) (.sh .nil) (.shAgg rfl gA_ .nil) rfl) ?_)|(guard_target =~ Zd; first|refine Za.cons (sC_ (h3) (.sh (.sh .nil)) (.sh wS_ (.sh wS_ .nil)) rfl) ?_)|refine goA ?_|(refine neA ?_; first|refine nxA ?_|refine Zb.ret (.one rA_ .nil) (.sh (.sh .nil)) ?_ rfl)|fail)
  all_goals first|rfl|(exfalso; omega)
 ·rw [if_pos hne]
  clear h1 h2 h3
  refine cA_ _ Tryz.func63 rfl Tryz.ntmps63 sO_ ?_
  repeat' (first|(refine w2_ ?_ ?_<;>intro _)|refine goA ?_|(refine neA ?_; first|refine nxA ?_|refine Zb.ret (.one rA_ .nil) (.sh (.sh .nil)) ?_ rfl)|fail)
  all_goals try (exfalso; omega)
  congr 4
  exact decide_eq_decide.2 j2
theorem Wc:∀ l:List CuP,D.erases (Zw l)=Zw l
 | []=>rfl
 | c :: l=>by
  rw [Jc]
  simp only [D.erases,D.erase,eM_,Wc l]
theorem Zhb (A B:List D):D.erases (A++B)=D.erases A++D.erases B:=by rw [D.erases_eq,D.erases_eq,D.erases_eq,List.map_append]
theorem Zd2 (A B:List CuP):Zw (A++B)=Zw A++Zw B:=by simp [Zw]
theorem Zo6 (x:CuP):∀ l,atS x l<=l.length
 | []=>by simp [atS]
 | y :: l=>by
  have:=Zo6 x l
  rw [atS]
  split<;>simp<;>omega
theorem Zvx {x:CuP}:∀ {l:List CuP} {t:Nat},t < atS x l->Zvs (gC l t) x=true
 | [],t,h=>by simp [atS] at h
 | y :: l,t,h=>by
  rw [atS] at h
  split at h
  ·rename_i hb
   cases t with
   | zero=>simpa [gC] using hb
   | succ t=>simpa [gC] using Zvx (l:=l) (t:=t) j2
  ·omega
theorem Zvy {x:CuP}:∀ {l:List CuP},atS x l < l.length->Zvs (gC l (atS x l)) x=false
 | [],h=>by simp at h
 | y :: l,h=>by
  rw [atS] at h ⊢
  split
  ·rename_i hb
   rw [if_pos hb] at h
   have:=Zvy (x:=x) (l:=l) v8
   simpa [gC] using this
  ·rename_i hb
   simpa [gC] using hb
def Qe (l:List CuP) (j:Nat):List CuP:=(l.take j).foldl (λout c=>Zkp out (lsS c.1 c.2)) []
theorem Zhc {l:List CuP} {j:Nat} (h:j < l.length):Qe l (j+1)=Zkp (Qe l j) (lsS (gC l j).1 (gC l j).2):=by
 unfold Qe
 rw [List.take_add_one,List.getElem?_eq_getElem h,List.foldl_append]
 simp [gC,List.getD_eq_getElem?_getD,h]
theorem Zyc {out:List CuP} {x:CuP} (ho:∀ c ∈ out,OkP c) (hx:OkP x):(∀ c ∈ Zkp out x,OkP c) /\ (Zkp out x).length<=out.length+1:=by
 unfold Zkp
 split
 ·exact ⟨ho,by omega⟩
 ·refine ⟨λc hc=>?_,?_⟩
  ·simp only [List.mem_append,List.mem_singleton] at hc
   rcases hc with (hc|hc)|hc
   ·exact ho c (List.mem_of_mem_take hc)
   ·rw [hc]; exact hx
   ·exact ho c (List.mem_of_mem_drop hc)
  ·have:=Zo6 x out
   simp only [List.length_append,List.length_take,List.length_drop,List.length_singleton]
   omega
theorem Uj {l:List CuP} {j:Nat} (h:j < l.length):gC l j ∈ l:=by
 rw [gC,List.getD_eq_getElem?_getD,List.getElem?_eq_getElem h]; exact List.getElem_mem h
theorem Zhd {l:List CuP} (h:∀ c ∈ l,OkP c):∀ j,j<=l.length->(∀ c ∈ Qe l j,OkP c) /\ (Qe l j).length<=j
 | 0,_=>by simp [Qe]
 | j+1,hj=>by
  have ih:=Zhd h j j2
  have:=Zyc ih.1 (h _ (Uj (show j < l.length by omega))).ls
  rw [Zhc j2]
  exact ⟨this.1,by omega⟩
theorem Zjj (out:List CuP) (x:CuP) (a:Nat):(D.sl true 2 (Zw ((out.drop 0).take (a - 0))++([.sl true 1 (LL x.1),.sl true 1 (LL x.2)]++Zw ((out.drop a).take (out.length - a))))).erase=.sl false 2 (Zw (out.take a++[x]++out.drop a)):=by
 show D.sl false 2 (D.erases _)=_
 rw [Zhb,Zhb,Wc,Wc,Zd2,Zd2,List.append_assoc]
 simp only [D.erases,D.erase,eN_,List.drop_zero,Nat.sub_zero]
 rw [List.take_of_length_le (l:=out.drop a) (by rw [List.length_drop]; omega)]
 rfl
theorem c_F {l l':List CuP} (h:l=l'):AV.c (.sl false 2 (Zw l))=AV.c (.sl false 2 (Zw l')):=by rw [h]
theorem Zvz (m:Int) (hm:0<=m /\ m<=10) (all:List CuP) (hE:enS m=some all) (hL:(Ye m).length<=1000) (hok:∀ c ∈ all,OkP c) (hl:all.length<=1000):K6 Tryz.prog 27 [aI m] [.one (.sl false 2 (Zw (Zkq all)))]:=by
 have hLi:=Zz6 m j2
 have hC:=U8.froze (v:=.agg [.sl true 1 [],.sl true 1 []]) [aLL (Ye m),aI ((0:Nat):Int)] (Zy8 m hm (Ye m) hL 7 0 [] [] [] [] all OkE.nil hE)
 have hC:U8 Tryz.prog 61 ([]++.sh (V.erase (.one (.sl true 1 (LL (Ye m))))) :: [aI ((0:Nat):Int),.mv (.agg [.sl true 1 [],.sl true 1 []]),aI m,.mv (.one (.sl true 2 []))]) [rF all]:=by
  show U8 _ _ [.sh (.one (.sl false 1 (D.erases (LL (Ye m))))),aI ((0:Nat):Int),.mv (.agg [.sl true 1 [],.sl true 1 []]),aI m,.mv (.one (.sl true 2 []))] _
  rw [eN_]
  exact hC
 have hC:=U8.froze [] hC
 change U8 _ _ [.mv (.one (.sl true 1 (LL (Ye m)))),aI ((0:Nat):Int),.mv (.agg [.sl true 1 [],.sl true 1 []]),aI m,.mv (.one (.sl true 2 []))] _ at hC
 have hso:=Zhd hok
 have hss:=λj (h:j < all.length)=>Zhc h
 have hfin:Zkq all=Qe all all.length:=by rw [Qe,List.take_length]; rfl
 rw [hfin]
 rw [show ((0:Nat):Int)=0 from rfl] at hC
 generalize Ye m=Bs at *
 clear hE hL hfin
 refine K7 _ Tryz.func27 rfl Tryz.ntmps27 rfl ?_
 repeat' (first|(refine w2_ ?_ ?_<;>intro _)|(guard_target =~ IsW; first|refine WpA.freezeC 5 3 (.sl false 2 (Zw all)) rfl rfl rfl (by show D.sl false 2 (D.erases (Zw all))=_; rw [Wc]) ?_|refine WpA.freezeC 5 4 (.sl false 2 (Zw [])) rfl rfl rfl (by rfl) ?_)|(guard_target =~ AtN 10; refine Za.cons (sC_ (hLi) (.sh .nil) (.sh wS_ .nil) rfl) ?_)|(guard_target =~ AtN 14; refine Za.consX (J1 (hC) (.mv vA_ (.sh (.mvAgg rfl rfl (.sh (.mv vA_ .nil))))) (.mv (.sh lcA (.mv (.sh lcA (.mv .nil))))) rfl rfl) ?_)|(guard_target =~ IsN; first|refine Za.cons (Xu rfl) ?_)|refine goA ?_|(guard_target =~ IsG; first|refine psA ?_|refine Za.doit rfl rfl (Xu rfl) ?_|refine gdA ?_)|(refine neA ?_; first|refine nxA ?_|refine Z7.ret (.one rA_ .nil) rfl|refine Z7.ret (.one rA_ .nil) ?_|refine Z7.normal (.one rA_ .nil) rfl|refine Z7.normal (.one rA_ .nil) ?_)|fail)
 all_goals try (exfalso; omega)
 refine WpA.loop_slots (ι:=Nat) (λj=>[(3,.c (.sl false 2 (Zw all))),(4,.c (.sl false 2 (Zw (Qe all j)))),(5,vQJ j)]) (λj=>j<=all.length) (λj=>all.length - j) 0 j2 ⟨rfl,xR_,rfl,trivial⟩ ?_
 intro j s nx hj
 have la:=Zq all
 obtain ⟨ho1,ho2⟩:=hso j hj
 by_cases hlt:j < all.length
 ·have hcj:=hok _ (Uj hlt)
  have hLe:=hcj.least
  have hxo:=hcj.ls
  have hsj:=hss j hlt
  clear hso hss hcj hok
  generalize hx:lsS (gC all j).1 (gC all j).2=x at *
  have lo:=Zq (Qe all j)
  generalize hout:Qe all j=out at *
  have hNu:=Zi9 x.1.length (by have:=hxo.len; omega)
  have hPa:=hxo.part
  have hFx:=hxo.flat
  have hkx:=hxo.key
  have hin:Zkp out x=if atS x out < out.length /\ Xi (out.getD (atS x out) ([],[])).1 (out.getD (atS x out) ([],[])).2=Xi x.1 x.2 then out else out.take (atS x out)++[x]++out.drop (atS x out):=rfl
  have hle:=Zo6 x out
  have hbl:=λt (h:t < atS x out)=>Zvx h
  have hba:=λ(h:atS x out < out.length)=>Zvy h
  have hbc:=λt (h:t < out.length)=>Zvw (ho1 _ (Uj h)) hxo
  have hfl:=λt (h:t < out.length)=>(ho1 _ (Uj h)).flat
  have hkl:=λt (h:t < out.length)=>(ho1 _ (Uj h)).key
  clear ho1 hxo
  generalize hat:atS x out=at0 at *
  repeat' (first|(refine w2_ ?_ ?_<;>intro _)|(guard_target =~ AtN 31; first|refine Za.consX (Yx (hLe) (.sh (.sh (.mv vA_ .nil))) (.sh (.agg rfl j8) (.sh (.agg rfl j8) (.mv .nil))) rfl rfl) ?_)|(guard_target =~ IsN; first|refine Za.cons (Xu rfl) ?_|refine Za.cons (Z2 rfl (by assumption) rfl) ?_|refine Za.cons (Z6 (.sh rfl) _ (Zq _) (by decide) rfl) ?_)|refine goA ?_|(guard_target =~ IsG; first|refine psA ?_|refine Za.doit rfl rfl (Xu rfl) ?_|refine Za.doit rfl rfl (Z2 rfl (by assumption) rfl) ?_|refine Za.doit rfl rfl (Z6 (.sh rfl) _ (Zq _) (by decide) rfl) ?_|refine gdA ?_)|(refine neA ?_; first|refine nxA ?_|refine Z7.ret (.one rA_ .nil) rfl|refine Z7.ret (.one rA_ .nil) ?_|refine Z7.normal (.one rA_ .nil) rfl|refine Z7.normal (.one rA_ .nil) ?_)|fail)
  all_goals try (exfalso; omega)
  refine WpA.loop_slots (ι:=Nat × Nat) (λq=>[(3,.c (.sl false 2 (Zw all))),(4,.c (.sl false 2 (Zw out))),(5,vQJ j),(6,.own q.2 (.pt true [.sl false 1 (LLs x.1),.sl false 1 (LLs x.2)])),(7,vQJ q.1)]) (λq=>q.1<=at0) (λq=>at0 - q.1) (0,_) (by simp) ⟨rfl,rfl,rfl,xR_,rfl,trivial⟩ ?_
  rintro ⟨t,i6⟩ s nx ht
  dsimp only at ht ⊢
  by_cases htl:t < at0
  ·have hto:t < out.length:=by omega
   have hB:=hbc t hto
   rw [hbl t htl] at hB
   clear hbl hba hbc hfl hkl hin hLe
   repeat' (first|(refine w2_ ?_ ?_<;>intro _)|(guard_target =~ Zd; first|refine Za.cons (sC_ (hB) (.sh (.sh .nil)) (.shAgg rfl gA_ (.shAgg rfl gA_ .nil)) rfl) ?_)|(guard_target =~ IsN; first|refine Za.cons (Z2 rfl (by assumption) rfl) ?_|refine Za.cons (Z6 (.sh rfl) _ (Zq _) (by decide) rfl) ?_)|refine goA ?_|(guard_target =~ IsG; first|refine psA ?_|(guard_target =~ Z4; first|refine Za.doit rfl rfl (sC_ (hB) (.sh (.sh .nil)) (.shAgg rfl gA_ (.shAgg rfl gA_ .nil)) rfl) ?_)|refine Za.doit rfl rfl (Z2 rfl (by assumption) rfl) ?_|refine Za.doit rfl rfl (Z6 (.sh rfl) _ (Zq _) (by decide) rfl) ?_|refine gdA ?_)|(refine neA ?_; first|refine nxA ?_|refine Z7.ret (.one rA_ .nil) rfl|refine Z7.ret (.one rA_ .nil) ?_|refine Z7.normal (.one rA_ .nil) rfl|refine Z7.normal (.one rA_ .nil) ?_)|fail)
   all_goals try (exfalso; omega)
   all_goals exact ⟨(t+1,i6),by simp only; omega,⟨rfl,rfl,rfl,xR_,Zc (by simp),trivial⟩,by simp only; omega⟩
  ·obtain rfl:t=at0:=by omega
   by_cases hto:t < out.length
   ·have hB:=hbc t hto
    rw [hba hto] at hB
    have hF:=hfl t hto
    have hS:=Za1 (Xi (gC out t).1 (gC out t).2) (Xi x.1 x.2) (hkl t hto) hkx
    clear hbl hba hbc hfl hkl hLe
    by_cases hk:Xi (gC out t).1 (gC out t).2=Xi x.1 x.2
    ·rw [decide_eq_true hk] at hS
     rw [if_pos ⟨hto,hk⟩] at hin
     repeat' (first|(refine w2_ ?_ ?_<;>intro _)|(guard_target =~ IsN; first|refine Za.cons (Z2 rfl (by assumption) rfl) ?_|refine Za.cons (Z6 (.sh rfl) _ (Zq _) (by decide) rfl) ?_)|refine goA ?_|(guard_target =~ IsG; first|refine psA ?_|(guard_target =~ AtS 42; refine Za.doit rfl rfl (sC_ (hB) (.sh (.sh .nil)) (.shAgg rfl gA_ (.shAgg rfl gA_ .nil)) rfl) ?_)|(guard_target =~ AtS 55; refine Za.doit rfl rfl (sC_ (hF) (.sh .nil) (.shAgg rfl gA_ .nil) rfl) ?_)|(guard_target =~ AtS 57; refine Za.doit rfl rfl (sC_ (hFx) (.sh .nil) (.shAgg rfl gA_ .nil) rfl) ?_)|(guard_target =~ AtS 58; refine Za.doit rfl rfl (sC_ (hS) (.sh (.sh .nil)) (.sh wS_ (.sh wS_ .nil)) rfl) ?_)|refine Za.doit rfl rfl (Z2 rfl (by assumption) rfl) ?_|refine Za.doit rfl rfl (Z6 (.sh rfl) _ (Zq _) (by decide) rfl) ?_|refine gdA ?_)|(refine neA ?_; first|refine nxA ?_|refine Z7.ret (.one rA_ .nil) rfl|refine Z7.ret (.one rA_ .nil) ?_|refine Z7.normal (.one rA_ .nil) rfl|refine Z7.normal (.one rA_ .nil) ?_)|fail)
     all_goals try (exfalso; omega)
     all_goals exact ⟨j+1,by omega,⟨rfl,by exact c_F (by rw [hsj,hin]),Zc (by simp),trivial⟩,by omega⟩
    ·rw [decide_eq_false hk] at hS
     rw [if_neg (λq=>hk q.2)] at hin
     repeat' (first|(refine w2_ ?_ ?_<;>intro _)|(guard_target =~ IsW; first|refine WpA.freezeC 20 4 (.sl false 2 (Zw (Zkp out x))) rfl rfl rfl (by rw [hin]; exact Zjj out x _) ?_)|(guard_target =~ AtN 64; refine Za.cons (sC_ (hNu) (.sh .nil) (.sh wS_ .nil) rfl) ?_)|(guard_target =~ AtN 65; refine Za.cons (sC_ (hPa) (.sh (.sh .nil)) (.shAgg rfl gA_ (.sh wS_ .nil)) rfl) ?_)|(guard_target =~ IsN; first|refine Za.cons (Xu rfl) ?_|refine Za.cons (Vm rfl (.at_ rfl rfl) .no j2 j2 rfl) ?_|refine Za.cons (Vm rfl .no (.at_ rfl rfl) j2 j2 rfl) ?_|refine Za.cons (Vy (.own rfl) xR_ j9 rfl) ?_|refine Za.cons (Zo (.own rfl) (.als rfl rfl) j9 rfl) ?_|refine Za.cons (Z2 rfl (by assumption) rfl) ?_|refine Za.cons (Z6 (.sh rfl) _ (Zq _) (by decide) rfl) ?_)|refine goA ?_|(guard_target =~ IsG; first|refine psA ?_|(guard_target =~ AtS 42; refine Za.doit rfl rfl (sC_ (hB) (.sh (.sh .nil)) (.shAgg rfl gA_ (.shAgg rfl gA_ .nil)) rfl) ?_)|(guard_target =~ AtS 55; refine Za.doit rfl rfl (sC_ (hF) (.sh .nil) (.shAgg rfl gA_ .nil) rfl) ?_)|(guard_target =~ AtS 57; refine Za.doit rfl rfl (sC_ (hFx) (.sh .nil) (.shAgg rfl gA_ .nil) rfl) ?_)|(guard_target =~ AtS 58; refine Za.doit rfl rfl (sC_ (hS) (.sh (.sh .nil)) (.sh wS_ (.sh wS_ .nil)) rfl) ?_)|refine Za.doit rfl rfl (Xu rfl) ?_|refine Za.doit rfl rfl (Vm rfl (.at_ rfl rfl) .no j2 j2 rfl) ?_|refine Za.doit rfl rfl (Vm rfl .no (.at_ rfl rfl) j2 j2 rfl) ?_|refine Za.doit rfl rfl (Vy (.own rfl) xR_ j9 rfl) ?_|refine Za.doit rfl rfl (Zo (.own rfl) (.als rfl rfl) j9 rfl) ?_|refine Za.doit rfl rfl (Z2 rfl (by assumption) rfl) ?_|refine Za.doit rfl rfl (Z6 (.sh rfl) _ (Zq _) (by decide) rfl) ?_|refine gdA ?_)|(refine neA ?_; first|refine nxA ?_|refine Z7.ret (.one rA_ .nil) rfl|refine Z7.ret (.one rA_ .nil) ?_|refine Z7.normal (.one rA_ .nil) rfl|refine Z7.normal (.one rA_ .nil) ?_)|fail)
     all_goals try (exfalso; omega)
     all_goals exact ⟨j+1,by omega,⟨rfl,by exact c_F hsj.symm,Zc (by simp),trivial⟩,by omega⟩
   ·rw [if_neg (λq=>hto q.1)] at hin
    clear hbl hba hbc hfl hkl hLe
    repeat' (first|(refine w2_ ?_ ?_<;>intro _)|(guard_target =~ IsW; first|refine WpA.freezeC 20 4 (.sl false 2 (Zw (Zkp out x))) rfl rfl rfl (by rw [hin]; exact Zjj out x _) ?_)|(guard_target =~ AtN 64; refine Za.cons (sC_ (hNu) (.sh .nil) (.sh wS_ .nil) rfl) ?_)|(guard_target =~ AtN 65; refine Za.cons (sC_ (hPa) (.sh (.sh .nil)) (.shAgg rfl gA_ (.sh wS_ .nil)) rfl) ?_)|(guard_target =~ IsN; first|refine Za.cons (Xu rfl) ?_|refine Za.cons (Vm rfl (.at_ rfl rfl) .no j2 j2 rfl) ?_|refine Za.cons (Vm rfl .no (.at_ rfl rfl) j2 j2 rfl) ?_|refine Za.cons (Vy (.own rfl) xR_ j9 rfl) ?_|refine Za.cons (Zo (.own rfl) (.als rfl rfl) j9 rfl) ?_|refine Za.cons (Z2 rfl (by assumption) rfl) ?_|refine Za.cons (Z6 (.sh rfl) _ (Zq _) (by decide) rfl) ?_)|refine goA ?_|(guard_target =~ IsG; first|refine psA ?_|refine Za.doit rfl rfl (Xu rfl) ?_|refine Za.doit rfl rfl (Vm rfl (.at_ rfl rfl) .no j2 j2 rfl) ?_|refine Za.doit rfl rfl (Vm rfl .no (.at_ rfl rfl) j2 j2 rfl) ?_|refine Za.doit rfl rfl (Vy (.own rfl) xR_ j9 rfl) ?_|refine Za.doit rfl rfl (Zo (.own rfl) (.als rfl rfl) j9 rfl) ?_|refine Za.doit rfl rfl (Z2 rfl (by assumption) rfl) ?_|refine Za.doit rfl rfl (Z6 (.sh rfl) _ (Zq _) (by decide) rfl) ?_|refine gdA ?_)|(refine neA ?_; first|refine nxA ?_|refine Z7.ret (.one rA_ .nil) rfl|refine Z7.ret (.one rA_ .nil) ?_|refine Z7.normal (.one rA_ .nil) rfl|refine Z7.normal (.one rA_ .nil) ?_)|fail)
    all_goals try (exfalso; omega)
    all_goals exact ⟨j+1,by omega,⟨rfl,by exact c_F hsj.symm,Zc (by simp),trivial⟩,by omega⟩
 ·obtain rfl:j=all.length:=by omega
  clear hso hss
  repeat' (first|(refine w2_ ?_ ?_<;>intro _)|(guard_target =~ IsN; first|refine Za.cons (Z6 (.sh rfl) _ (Zq _) (by decide) rfl) ?_)|refine goA ?_|(guard_target =~ IsG; first|refine psA ?_|refine Za.doit rfl rfl (Z6 (.sh rfl) _ (Zq _) (by decide) rfl) ?_|refine gdA ?_)|(refine neA ?_; first|refine nxA ?_|refine Z7.ret (.one rA_ .nil) rfl|refine Z7.ret (.one rA_ .nil) ?_|refine Z7.normal (.one rA_ .nil) rfl|refine Z7.normal (.one rA_ .nil) ?_)|fail)
  all_goals first|rfl|(exfalso; omega; done)|skip
  show [V.one (D.sl false 2 (D.erases (Zw (Qe all all.length))))]=_
  rw [Wc]
end Go.Proofs.YtinenidbgmddhaaGreat
namespace Go.Proofs.YtinenidbgmddhaaGreat
set_option maxHeartbeats 20000000
open Go.Pv
open Go.ChangeShapes Go.WideShapes Go.ChangeAt Go.RowKit
attribute [local irreducible] Za WpA Zk Z3 Zv Zb Zh Z7 K6 Kb
instance fnOk9:Zp Tryz.prog 9:=⟨_,Tryz.func9,rfl,by decide⟩
attribute [local irreducible] decStrict decFalls decIsBr decWithin Xh Xw Zx Xf Vq
def Zyd (c:CuP):Bool:=decide (c.1.length<=6) && decide (c.2.length=c.1.length) && (c.1.all λr=>decide (r.length<=2)) && c.2.all λr=>decide (r.length=c.1.length)
theorem Zkv {c:CuP} (h:Zyd c=true):OkP c:=by
 unfold Zyd at h
 simp only [Bool.and_eq_true,decide_eq_true_eq,List.all_eq_true] at h
 obtain ⟨⟨⟨h1,h2⟩,h3⟩,h4⟩:=h
 refine ⟨c.1.length,h1,rfl,h2,λi=>?_,λi hi=>?_⟩
 ·by_cases hi:i < c.1.length
  ·rw [List.getD_eq_getElem?_getD,List.getElem?_eq_getElem hi]
   have:=h3 _ (List.getElem_mem hi)
   simp only [Option.getD_some]; omega
  ·rw [List.getD_eq_getElem?_getD,List.getElem?_eq_none j2]; simp
 ·rw [List.getD_eq_getElem?_getD,List.getElem?_eq_getElem j2]
  exact h4 _ (List.getElem_mem j2)
noncomputable def okX (m:Int):Bool:=match enS m with
 | some a=>a.all Zyd && (decide (a.length<=100) && decide ((Ye m).length<=1000))
 | none=>false
theorem Zye:(List.range 9).all (λk=>okX k)=true:=by decide +kernel
theorem Xay:okX 9=true:=by decide +kernel
theorem Zz8:okX 10=true:=by decide +kernel
theorem Zo7 {m:Int} (hm:0<=m /\ m<=10):okX m=true:=by
 by_cases h9:m=9
 ·rw [h9]; exact Xay
 by_cases h10:m=10
 ·rw [h10]; exact Zz8
 have h:=Zye
 rw [List.all_eq_true] at h
 have:=h m.toNat (List.mem_range.2 j2)
 rwa [show ((m.toNat:Nat):Int)=m by omega] at this
noncomputable def cuL (m:Int):List CuP:=match enS m with
 | some a=>Zkq a
 | none=>[]
theorem Zkw (m:Int) (hm:0<=m /\ m<=10):K6 Tryz.prog 27 [aI m] [.one (.sl false 2 (Zw (cuL m)))]:=by
 have h:=Zo7 hm
 unfold okX at h
 unfold cuL
 cases he:enS m with
 | none=>rw [he] at h; simp at h
 | some a =>
  rw [he] at h
  simp only [Bool.and_eq_true,decide_eq_true_eq,List.all_eq_true] at h
  obtain ⟨h1,h2,h3⟩:=h
  exact Zvz m hm a he h3 (λc hc=>Zkv (h1 c hc)) j2
theorem Zhe {m:Int} (hm:0<=m /\ m<=10):(∀ c ∈ cuL m,OkP c) /\ (cuL m).length<=100:=by
 have h:=Zo7 hm
 unfold okX at h
 unfold cuL
 cases he:enS m with
 | none=>rw [he] at h; simp at h
 | some a =>
  rw [he] at h
  simp only [Bool.and_eq_true,decide_eq_true_eq,List.all_eq_true] at h
  obtain ⟨h1,h2,h3⟩:=h
  have:=Zhd (λc hc=>Zkv (h1 c hc)) a.length (Nat.le_refl _)
  have e:Zkq a=Qe a a.length:=by rw [Qe,List.take_length]; rfl
  show (∀ c ∈ Zkq a,OkP c) /\ (Zkq a).length<=100
  rw [e]
  exact ⟨this.1,by omega⟩
noncomputable def J6 (m:Int):List CuP:=if 0<=m /\ m<=10 then cuL m else []
theorem Zyf (m:Int):(∀ c ∈ J6 m,OkP c) /\ (J6 m).length<=100:=by
 unfold J6
 split
 ·exact Zhe ‹_›
 ·simp
def Znb (m:Int):Int:=if 0<=m /\ m<=10 then 0 else 2
theorem Zo8 (m:Int):K6 Tryz.prog 9 [aI m] [.one (.sl false 2 (Zw (J6 m))),rI (Znb m)]:=by
 unfold J6 Znb
 have hI:=Xar m 0 10
 by_cases hk:0<=m /\ m<=10
 ·have hc:=Zkw m hk
  rw [if_pos hk,if_pos hk]
  rw [decide_eq_true hk] at hI
  generalize cuL m=R at *
  refine K7 _ Tryz.func9 rfl Tryz.ntmps9 rfl ?_
  repeat' (first|(refine w2_ ?_ ?_<;>intro _)|(guard_target =~ Zd; first|refine Za.cons (sC_ (hI) (.sh (.sh (.sh .nil))) (.sh wS_ (.sh wS_ (.sh wS_ .nil))) rfl) ?_|refine Za.consX (Yx (hc) (.sh .nil) (.sh lcA .nil) rfl rfl) ?_)|refine goA ?_|(refine neA ?_; first|refine nxA ?_|refine Z7.ret (.one rA_ (.one rA_ .nil)) rfl|refine Z7.ret (.one rA_ (.one rA_ .nil)) ?_|refine Z7.normal (.one rA_ (.one rA_ .nil)) rfl|refine Z7.normal (.one rA_ (.one rA_ .nil)) ?_)|fail)
  all_goals first|rfl|(exfalso; omega; done)|skip
  all_goals (show [V.one (D.sl false 2 (D.erases (Zw R))),_]=_; rw [Wc]; rfl)
 ·rw [if_neg hk,if_neg hk]
  rw [decide_eq_false hk] at hI
  refine K7 _ Tryz.func9 rfl Tryz.ntmps9 rfl ?_
  repeat' (first|(refine w2_ ?_ ?_<;>intro _)|(guard_target =~ Zd; first|refine Za.cons (sC_ (hI) (.sh (.sh (.sh .nil))) (.sh wS_ (.sh wS_ (.sh wS_ .nil))) rfl) ?_)|refine goA ?_|(refine neA ?_; first|refine nxA ?_|refine Z7.ret (.one rA_ (.one rA_ .nil)) rfl|refine Z7.ret (.one rA_ (.one rA_ .nil)) ?_|refine Z7.normal (.one rA_ (.one rA_ .nil)) rfl|refine Z7.normal (.one rA_ (.one rA_ .nil)) ?_)|fail)
  all_goals first|rfl|(exfalso; omega)
noncomputable def Zz9 (m:Int):Int:=((J6 m).length:Nat)
end Go.Proofs.YtinenidbgmddhaaGreat
