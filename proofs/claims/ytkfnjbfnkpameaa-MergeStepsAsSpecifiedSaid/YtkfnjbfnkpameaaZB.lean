/- Part 2 of the proof of MergeStepsAsSpecified (several texts in one; no further condition). -/
import Derived.Test.YtkfnjbfnkpameaaZA
import Derived.OrdersIn
import Derived.TacticsIn
import Derived.Scope
import Derived.LoopNIn
import Derived.RangeFuncRecord
import Derived.RangeFuncNested
import Derived.RangeFuncIn
set_option linter.unusedSimpArgs false
set_option linter.unusedVariables false
set_option linter.unusedSectionVars false
namespace Go.Proofs.Ytkfnjbfnkpameaa
open Go.Proofs.Ytkfnjbfnkpameaa.Addr renaming ver->ss
open _root_.Array renaming getD_eq_getD_getElem?->kp,getElem?_eq_getElem->kw,getElem?_modify->o5,getElem?_replicate->n5,getElem?_toList->ki,length_toList->jr,replicate->qk,toList_inj->n9,toList_map->pa
open _root_.Bool renaming and_eq_true->fj,or_eq_false_iff->mg,or_eq_true->l7
open Go.Builtin renaming len_->o9,zeroCells->m9
open Go.Proofs.Ytkfnjbfnkpameaa.Can renaming refl->jp
open _root_.Classical renaming byContradiction->js
open Go.Code renaming wpIn_mono->ls
open Go.Proofs.Ytkfnjbfnkpameaa.Did renaming same->rn
open Go.Proofs.Ytkfnjbfnkpameaa.DidV renaming same->qx
open Go.Exit renaming normal->mz
open Go.Proofs.Ytkfnjbfnkpameaa.Ext renaming refl->qq
open Go.Fence renaming wide->me
open Go.Proofs.Ytkfnjbfnkpameaa.Fr renaming ofArgs->o4
open _root_.List renaming all_eq_true->ib,any_eq_false->pu,append_assoc->gj,countP_cons->p9,flatten_cons->ii,getElem?_append_left->gi,getElem?_append_right->im,getElem?_cons_zero->gz,getElem?_eq_getElem->fk,getElem?_eq_none->jw,getElem?_eq_some_iff->ge,mem_cons->kj,mem_of_getElem?->jl,replicate->gb,replicate_succ->jc
open _root_.Nat renaming beq->fy,eq_of_beq_eq_true->fl,le_refl->fp,le_trans->jv,lt_of_lt_of_le->gr,lt_trichotomy->nu,testBit->i6,zero_le->ir
open Go.Op renaming operands->gw
open Go renaming Operand->f7,Program->gn,TypeId->gm,execOp->mm,run_underlying->ig
open _root_.Option.some renaming injEq->fe
open _root_.Prod.mk renaming injEq->fm
open Go.Region renaming binds->l8
open Go.Result renaming andThen_ok->mn
open Go.Sem renaming run_bind->nq
open _root_.UInt8 renaming ofNat->sq
open Go.Proofs.Ytkfnjbfnkpameaa.VR renaming ofInt->pt
open Go.World renaming alloc_heap_new->qh,freeze->pr,putObj_heap_other->kh
open Go Go.RowKit
section
variable {P:gn} {Γ:Env} {σ:Sg} {V:Nat->Prop} {s s':CS} {w:World} {v:Value}
theorem zzt (hE:zeb P Γ) {e:gm} (h:isU8 Γ e=true):P.underlying e=some (.int .u8):=by
 unfold isU8 at h
 cases hi:Γ.ti.at e with
 |none=>rw [hi] at h;simp at h
 |some i =>
  rw [hi] at h;simp only at h;have hu:=(hE.ti _ _ hi).und;split at h
  .rename_i hd;rw [hd] at hu;exact hu
  .simp at h
theorem z3k:∀ {l l':List Value} {r:List UInt8},z0f l=some r->RL (VR σ) l l'->∃ ns:List Int,l'=ns.map (Value.int .u8)/\r=ns.map fun n=>sq n.toNat
 |[],[],r,h,_=>by simp only [z0f,fe] at h;exact ⟨[],rfl,h.symm⟩
 |x :: l,y :: m,r,h,⟨a,b⟩=>by
  unfold z0f at h;split at h
  .rename_i hq;simp at hq
  .rename_i k l2 heq;simp only [List.cons.injEq] at heq;obtain ⟨rfl,rfl⟩:=heq
   cases hl:z0f l with
   |none=>rw [hl] at h;simp at h
   |some r2 =>
    rw [hl] at h;simp only [fe] at h;obtain ⟨ns,e1,e2⟩:=z3k hl b;refine ⟨k :: ns,?_,?_⟩
    .rw [VR.int a,e1];rfl
    .rw [<- h,e2];rfl
  .simp at h
 |[],_ :: _,_,_,h=>h.elim
 |_ :: _,[],_,_,h=>h.elim
theorem zkb {b n k:Nat} (h:k≠b):(w.freeze ⟨b,n,none⟩ 1).heap[k]?=w.heap[k]?:=by
 unfold pr;rw [zAd (by decide)];simp only [o5];rw [zAd (Ne.symm h)]
theorem zur {b n:Nat}:(w.freeze ⟨b,n,none⟩ 1).heap.size=w.heap.size:=by
 unfold pr;rw [zAd (by decide)];simp
theorem zut {b n:Nat}:(w.freeze ⟨b,n,none⟩ 1).heap[b]?=(w.heap[b]?).map fun
    |.cells c elem (lo,hi)=>.cells c elem (if lo == hi then (n,n+1) else (min lo n,max hi (n+1)))
    |o=>o:=by
  unfold pr;rw [zAd (by decide)];simp only [o5,if_true];rfl
theorem zus {b n:Nat} (x:Addr):(w.freeze ⟨b,n,none⟩ 1).cell? x=w.cell? x:=by
 unfold World.cell?;by_cases h:x.block=b
 .rw [h,zut]
  cases w.heap[b]? with
  |none=>rfl
  |some x=>cases x<;>rfl
 .rw [zkb h]
theorem ygp {ro:Bool} {b b' o z:Nat} {cs:List Value} {el:gm} {n:Nat} (hsh:w.shape? b=some (el,n)) (h:zsa σ w ro b' o z cs):zsa σ (w.freeze ⟨b,n,none⟩ 1) ro b' o z cs:=by
 by_cases hb:b'=b
 .subst hb;refine ⟨h.1,fun j hj=>by rw [zus];exact h.2.1 j hj,fun hr=>⟨fun j hj=>?_,fun c e lo hi k=>?_⟩,fun j u hj=>?_⟩
  case refine_2 =>
   have hup:=(h.2.2.1 hr).2;unfold World.shape? at hsh;rw [zut] at k
   cases hx:w.heap[b']? with
   |none=>rw [hx] at k;simp at k
   |some x =>
    rw [hx] at k hsh
    cases x with
    |cells c2 e2 fr =>
     obtain ⟨lo2,hi2⟩:=fr;have h1:=hup c2 e2 lo2 hi2 hx;simp only [Option.map_some,fe,Obj.cells.injEq] at k;obtain ⟨_,_,k⟩:=k;split at k
     .cases k;omega
     .cases k;omega
    |_=>simp at k
  .have hc:=h.2.1 j hj;have hf:=(h.2.2.1 hr).1;have hup:=(h.2.2.1 hr).2;unfold World.shape? at hsh;unfold World.frozen?;rw [zut]
   cases hx:w.heap[b']? with
   |none=>rw [hx] at hsh;simp at hsh
   |some x =>
    rw [hx] at hsh
    cases x with
    |cells c e2 fr =>
     obtain ⟨lo,hi⟩:=fr;simp only [fe,fm] at hsh
     have hz:∀ i,i<z->i<c.size:=by
      intro i hi2;have:=h.2.1 i hi2;unfold World.cell? at this;rw [hx] at this;simp only [Option.isSome_none,Bool.false_eq_true,if_false] at this;exact (Array.getElem?_eq_some_iff.1 (Option.eq_some_iff_get_eq.2 ⟨this,rfl⟩)).1
     have hj1:=hz j hj;have hup1:=hup c e2 lo hi hx
     have hnf:∀ i,i<z->¬ (lo<=i/\i<hi):=by
      intro i hi2;have:=hf i hi2;unfold World.frozen? at this;rw [hx] at this;simpa using this
     simp only [Option.map_some];by_cases hlh:lo=hi
     .rw [zAc (by simpa using hlh)];simp only [Bool.and_eq_false_iff,decide_eq_false_iff_not];omega
     .rw [zAd (by simpa using hlh)];simp only [Bool.and_eq_false_iff,decide_eq_false_iff_not];have h1:=hnf j hj;by_cases hlo:lo<z
      .have h2:=hnf lo hlo;by_cases h3:j<lo
       .left;omega
       .right;have:hi<=lo:=by omega
        omega
      .left;omega
    |_=>simp at hsh
  .obtain ⟨u',k1,k2⟩:=h.2.2.2 j u hj;exact ⟨u',by rw [zus];exact k1,k2⟩
 .exact h.keep (zkb hb)
theorem ygq {f:Nat} {x:Fam} {b:Nat} {el:gm} {n:Nat} (hsh:w.shape? b=some (el,n)) (h:zjc σ w f x):zjc σ (w.freeze ⟨b,n,none⟩ 1) f x:=by
 refine ⟨fun p hp b' o z hs=>ygp hsh (h.rows p hp b' o z hs),h.desc,fun es he b' o z hs=>?_⟩;obtain ⟨ents,clock,h1,h2⟩:=h.es es he b' o z hs;refine ⟨ents,clock,?_,h2⟩;by_cases hb:b'=b
 .subst hb;unfold World.shape? at hsh;rw [h1] at hsh;simp at hsh
 .rw [zkb hb];exact h1
theorem ygr {src:gm} {e:gm} (u1:P.underlying src=some (.slice e)) (he:P.underlying e=some (.int .u8)) (hr:Rel σ V s w) (hV:zcm V s') {a:Addr} {n c:Nat} (hn:0<n) (h:s.write a []=some s') {x:Value} (vx:VR σ (.slice (some a) n c) x):DidV σ V s w ((convert src src x).run P w) (.slice (some a) n c) s':=by
 obtain ⟨b,o,z,hσ,a',c',rfl,hnc,hcc,_,ha,_⟩:=vx.out;have hw:=zo7 (vs':=[]) h hr hV hσ trivial;obtain ⟨_,_,_,hr',he'⟩:=hw;have hset:w.setCells b (o+a.off) []=w:=rfl;rw [hset] at hr' he';obtain ⟨cs,h1,h2,_⟩:=zkx h
 have hVf:V a.block:=by
  obtain ⟨_,_,_,_,_,hs⟩:=zkx h;refine zpn hV (s:=s) ?_ ?_
  .rw [hs]
  .rw [hs]
 have hab:a'.block=b:=by rw [ha (by omega)]
 have hrun:∀ el k,w.shape? b=some (el,k)->(convert src src (.slice (some a') n c')).run P w=.ok (.slice (some a') n c') (w.freeze ⟨b,k,none⟩ 1):=by
  intro el k hk;simp [convert,ig u1,ig he,markStringish,hab,hk]
 have hrun0:w.shape? b=none->(convert src src (.slice (some a') n c')).run P w=.ok (.slice (some a') n c') w:=by
  intro hk;simp [convert,ig u1,ig he,markStringish,hab,hk]
 cases hsh:w.shape? b with
 |none=>exact ⟨σ,w,_,hrun0 hsh,vx,hr',he'⟩
 |some q =>
  obtain ⟨el,k⟩:=q;refine ⟨σ,_,_,hrun el k hsh,vx,⟨hr'.inj,fun f u b1 o1 z1 hk=>by rw [zur];exact hr'.lt f u b1 o1 z1 hk,fun f hf=>ygq hsh (hr'.fam f hf),hr'.none,hr'.vers⟩,?_⟩;refine ⟨he'.le,he'.new,he'.old,by rw [zur];exact fp _,fun k2 hk2 hq=>?_,⟨?_,?_,?_⟩⟩
  .refine zkb ?_;rintro rfl;rcases hq _ _ _ _ hσ with hv|hv
   .exact hv hVf
   .rw [h1] at hv;simp at hv
  .unfold pr;rw [zAd (by decide)]
  .unfold pr;rw [zAd (by decide)]
  .unfold pr;rw [zAd (by decide)]
theorem zxy:∀ (ns:List Int) (r:ByteArray),ns.foldl (fun r n=>r.push (sq n.toNat)) r=⟨r.data++(ns.map fun n=>sq n.toNat).toArray⟩
 |[],r=>by simp
 |n :: ns,r=>by
  simp only [List.foldl_cons,List.map_cons];rw [zxy ns];simp [ByteArray.push]
theorem z49 (hE:zeb P Γ) (hr:Rel σ V s w) (hV:zcm V s') (hF:ze8 σ s.n s'.n) {ρ ρ':f7->Value} {o:Oper} {src dst:gm} {x:f7} (ho:o.op=.convert src dst x) (h:zdz P Γ ρ o s src dst (ρ x)=some (v,s'))
    (hρ:∀ x,x∈o.op.operands.toList->VR σ (ρ x) (ρ' x)):Did σ V s w ((mm ρ' o).run P w) v s':=by
  have vx:VR σ (ρ x) (ρ' x):=hρ x (by rw [ho];simp [gw]);have hex:(mm ρ' o)=(do pure (.value (<- convert src dst (ρ' x)))):=by simp [mm,ho]
  have hsel:∀ cs b,o.op≠.select cs b:=by intro cs b;rw [ho];simp
  unfold zdz at h
  cases hi:Γ.ti.at src with
  |none=>rw [hi] at h;simp at h
  |some i =>
    cases hj:Γ.ti.at dst with
    |none=>rw [hi,hj] at h;simp at h
    |some j =>
      rw [hi,hj] at h;simp only at h;have ti:=hE.ti _ _ hi;have tj:=hE.ti _ _ hj;split at h
      . rename_i k1 n hx;split at h
        . rename_i k hd;refine zqt hr hsel h hρ fun y hy=>?_;rw [hx] at vx;obtain ⟨h1,h2⟩:=yer (w:=w) (σ:=σ) ti tj hd (k1:=k1) hy;refine ⟨?_,h2⟩;rw [hex,vx.int];simp [h1]
        . simp at h
      . rename_i b hx;rw [hx] at vx;have hx2:=vx.str;rw [hex,hx2];apply DidV.up;split at h
        . rename_i e hd1 hd2;have u1:=ti.und;have u2:=tj.und;rw [hd1] at u1;rw [hd2] at u2
          cases hb:(isU8 Γ e && Nat.ble b.size 1000000000) with
          |false=>rw [hb] at h;simp at h
          |true =>
            rw [hb] at h;simp only [cond_true] at h;rw [fj] at hb;have he:=zzt hE hb.1;have hle:=zav.1 hb.2;obtain ⟨a,h1,rfl⟩:=zh7 h;have hrun:=run_bytes_of_string (P:=P) w src dst e b u1 u2 he;have hcap:=grownCap_ge w b.size 0 e;have hcap2:=grownCap_le_maxLen w b.size 0 e (by unfold maxLen;omega)
            have hsz:(bytesRow b (grownCap w b.size 0 e)).size=grownCap w b.size 0 e:=by
              simp [bytesRow];show b.size+_=_;omega
            obtain ⟨rfl,_,m1,m2,m3⟩:=zjj (w0:=w.drew) h1 hr hF (by decide) ⟨rfl,rfl,rfl,rfl⟩ (bytesRow b (grownCap w b.size 0 e)) e ((bytesRow b (grownCap w b.size 0 e)).size,(bytesRow b (grownCap w b.size 0 e)).size+1) (by intro j hj;simp only;omega)
              (zi6 b) (gb (grownCap w b.size 0 e - b.size) (.int .u8 0)) (by simp [bytesRow,zi6]) (RL.ints b)
            refine ⟨_,_,_,hrun,VR.mk ⟨_,_,_,m3,_,grownCap w b.size 0 e,rfl,fp _,hcap,hcap2,fun _=>rfl,fun h0=>?_,fun _ _=>?_⟩,m1,m2⟩
            . exfalso;have:(s.n*1024+2) % 1024=0:=h0;omega
            . show 0+0+grownCap w b.size 0 e*((s.n*1024+2) % 1024 - 1)<=_;rw [hsz,show (s.n*1024+2) % 1024=2 by omega];omega
        . rename_i hd1 hd2;have u1:=ti.und;have u2:=tj.und;rw [hd1] at u1;rw [hd2] at u2;simp only [fe,fm] at h;obtain ⟨rfl,rfl⟩:=h;refine qx hr ?_ (VR.ofStr _);simp [convert,ig u1,ig u2]
        . simp at h
      . rename_i x0 n c hx;rw [hx] at vx;rw [hex];apply DidV.up;split at h
        . rename_i e hd1 hd2;have u1:=ti.und;have u2:=tj.und;rw [hd1] at u1;rw [hd2] at u2
          cases hb:isU8 Γ e with
          |false=>rw [hb] at h;simp at h
          |true =>
            rw [hb] at h;simp only [cond_true] at h;have he:=zzt hE hb;unfold strC at h
            cases hq:s.firstCells 1 n (.slice x0 n c) with
            |none=>rw [hq] at h;simp at h
            |some p =>
              obtain ⟨l,s1⟩:=p;rw [hq] at h;simp only at h
              cases hl:z0f l with
              |none=>rw [hl] at h;simp at h
              |some r =>
                rw [hl] at h;simp only [fe,fm] at h;obtain ⟨rfl,rfl⟩:=h;obtain ⟨new',e1,e2,e3,_,e5,e6⟩:=zks (P:=P) hr hq hV ⟨n,rfl,fp _⟩ vx;obtain ⟨ns,f1,f2⟩:=z3k hl e2;refine ⟨σ,w,_,?_,VR.ofStr _,e5,e6⟩
                cases x0 with
                |none =>
                  obtain ⟨rfl,_,hv⟩:=vx.out;rw [hv,run_convert_bytes_nil w src e u1 he 0 0 dst u2]
                  have:ns=[]:=by
                    have:new'=[]:=List.eq_nil_of_length_eq_zero (by simpa using e3);rw [this] at f1;exact (List.map_eq_nil_iff.1 f1.symm)
                  subst this;subst f2;rfl
                |some a =>
                  obtain ⟨_,_,_,_,a',c',hv,_⟩:=vx.out;rw [hv];rw [run_convert_bytes_string w src dst e _ n c' u1 he u2];have e1w:=e1 w rfl;rw [hv] at e1w
                  have hload:(loadCells a' n).run P w=.ok (ns.map (Value.int .u8)).toArray w:=by
                    rw [<- f1];simpa [Builtin.firstCells] using e1w
                  rw [run_bytesToString w a' n c' ns hload,zxy,f2];have he0:ByteArray.empty.data=#[]:=rfl;rw [he0];simp
        . rename_i e e2 hd1 hd2;have u1:=ti.und;rw [hd1] at u1
          cases x0 with
          |none=>simp at h
          |some a =>
            simp only at h
            cases hb:(fy src dst && (Nat.blt 0 n && isU8 Γ e)) with
            |false=>rw [hb] at h;simp [yda] at h
            |true =>
              rw [hb] at h;rw [fj,fj] at hb;have hsd:=fl hb.1;subst hsd
              cases hq:s.write a [] with
              |none=>rw [hq] at h;simp [yda] at h
              |some s1 =>
                rw [hq] at h;simp only [cond_true,yda,fe,fm] at h;obtain ⟨rfl,rfl⟩:=h;exact ygr u1 (zzt hE hb.2.2) hr hV (zad.1 hb.2.1) hq vx
        . simp at h
      . obtain ⟨h1,rfl⟩:=zjs h;obtain ⟨h2,h3⟩:=zpr (w:=w) hsel h1 hρ;exact rn hr h2 h3
theorem z7w {l:List Value}:∀ (n i:Nat),i<n*l.length->(gb n l).flatten[i]?=l[i % l.length]?
 |0,i,h=>by omega
 |n+1,i,h=>by
  rw [jc,ii];rw [Nat.add_mul] at h;by_cases c:i<l.length
  .rw [gi c,Nat.mod_eq_of_lt c]
  .rw [im (by omega),z7w n (i - l.length) (by omega)];congr 1;rw [Nat.mod_eq_sub_mod (show i>=l.length by omega)]
theorem zvk (z:Array Value) (n:Nat):(m9 z n).toList=(gb n z.toList).flatten:=by
 apply List.ext_getElem?;intro i;by_cases c:i<n*z.size
 .rw [z7w n i (by simpa using c)]
  have hz:0<z.size:=by
   rcases Nat.eq_zero_or_pos z.size with h|h
   .rw [h] at c;omega
   .exact h
  have hm:i % z.size<z.size:=Nat.mod_lt _ hz;simp [m9,c,hm]
 .rw [jw (by simp [m9];omega),jw (by simp;omega)]
theorem yev (hE:zeb P Γ) (hr:Rel σ V s w) (hV:zcm V s') {t ty:gm} {x x':Value} (h:zov Γ s t x=some (v,s')) (hx:VR σ x x') :
    DidV σ V s w ((Builtin.clear_ #[t] ty #[x']).run P w) v s':=by
  unfold zov at h;split at h
  . rename_i a len cap
    cases hi:zdt Γ t with
    |none=>rw [hi] at h;simp at h
    |some j =>
      rw [hi] at h;simp only at h;obtain ⟨e,hu,hti⟩:=zqc hE hi;obtain ⟨zv,hz1,_,hz2⟩:=z02 hti;unfold z8h at h
      cases hz:Nat.blt 0 (len*j.zero.length) with
      |false=>rw [hz] at h;simp at h
      |true =>
        rw [hz] at h;simp only [cond_true] at h
        cases hw:s.write a (gb len j.zero).flatten with
        |none=>rw [hw] at h;simp at h
        |some s2 =>
          rw [hw] at h;simp only [fe,fm] at h;obtain ⟨rfl,rfl⟩:=h;obtain ⟨b,o,z,hσ,a',c',rfl,v1,v2,v3,v4,v5,v6⟩:=hx.out;have hz:=zad.1 hz;have hl0:len≠0:=by rintro rfl;simp at hz
          have hne:c'≠0:=by omega
          have:=v4 hne;subst this
          have e2:RL (VR σ) (gb len j.zero).flatten (m9 zv.cells len).toList:=by
            rw [zvk,hz1]
            have rr:∀ n:Nat,RL (VR σ) (gb n j.zero).flatten (gb n j.zero).flatten:=fun n=>by
              induction n with
              |zero=>exact trivial
              |succ n ih =>
                rw [jc,ii];exact (hti.refl σ).append ih
            exact rr len
          obtain ⟨w1,w2,w3,w4,w5⟩:=zo7 hw hr hV hσ e2;have hst:=run_storeCells_cells (P:=P) b (o+a.off) (m9 zv.cells len).toList 0 w (by simpa using w1) (by simpa using w2) w3;simp only [Nat.add_zero] at hst;refine ⟨σ,_,.tuple #[],?_,VR.undef,w4,w5⟩
          cases len with
          |zero=>exact absurd rfl hl0
          |succ len=>simp [Builtin.clear_,ig hu,hz2,hst]
  . simp at h
theorem EL.length {R:Value->Value->Prop}:∀ {l:List (Value×Value)} {m:List MapEntry},EL R l m->l.length=m.length
 |[],[],_=>rfl
 |(_,_) :: l,_ :: m,⟨_,_,_,d⟩=>by simp [EL.length d]
 |[],_ :: _,h=>h.elim
 |_ :: _,[],h=>h.elim
theorem ylv (hE:zeb P Γ) (hr:Rel σ V s w) (hV:zcm V s') {t ty:gm} {x x':Value} (h:zmi Γ s t x=some (v,s')) (hx:VR σ x x'):DidV σ V s w ((o9 #[t] ty #[x']).run P w) v s':=by
 unfold zmi at h
 cases hi:Γ.ti.at t with
 |none=>rw [hi] at h;simp at h
 |some i =>
  rw [hi] at h;simp only at h;have hu:=(hE.ti _ _ hi).und;split at h
  .rename_i b hd;rw [hd] at hu;simp only [fe,fm] at h;obtain ⟨rfl,rfl⟩:=h;obtain rfl:=hx.str;exact qx hr (by simp [o9,ig hu,goInt]) (pt _ _)
  .rename_i n e hd;rw [hd] at hu;simp only [fe,fm] at h;obtain ⟨rfl,rfl⟩:=h;exact qx hr (by simp [o9,ig hu,goInt]) (pt _ _)
  .rename_i e a n c hd;rw [hd] at hu;simp only [fe,fm] at h;obtain ⟨rfl,rfl⟩:=h
   cases a with
   |none=>obtain ⟨rfl,_,rfl⟩:=hx.out;exact qx hr (by simp [o9,ig hu,goInt]) (pt _ _)
   |some a=>obtain ⟨_,_,_,_,_,_,rfl,_⟩:=hx.out;exact qx hr (by simp [o9,ig hu,goInt]) (pt _ _)
  .rename_i k e hd;rw [hd] at hu;simp only [fe,fm] at h;obtain ⟨rfl,rfl⟩:=h;obtain rfl:=hx.out;exact qx hr (by simp [o9,ig hu,goInt]) (pt _ _)
  .rename_i k e r hd;rw [hd] at hu;unfold z4s at h
   cases hq:s.readMap r with
   |none=>rw [hq] at h;simp at h
   |some p =>
    obtain ⟨es,s1⟩:=p;rw [hq] at h;simp only [fe,fm] at h;obtain ⟨rfl,rfl⟩:=h;obtain ⟨b,o,z,hσ,rfl⟩:=hx.out;obtain ⟨⟨ents,clock,hb,hel⟩,_,h3,h4⟩:=z9f hq hr hV hσ;refine ⟨σ,w,.int .i64 (es.length:Int),?_,pt _ _,h3,h4⟩;have:es.length=ents.size:=by rw [hel.length,jr]
    have hg:(getObj b).run P w=.ok (.map ents clock) w:=by simp [getObj,Sem.run,hb]
    simp [o9,ig hu,goInt,hg,this]
  .simp at h
def z5i (kind:TypeDesc) (k:Value):Prop:=match kind,k with|.int a,.int c _=>fy (ikN a) (ikN c)=true|.string,.string _=>True|.bool,.bool _=>True|_,_=>False
theorem z5i.plain {kind:TypeDesc} {k:Value} (h:z5i kind k):za6 3 k=true:=by
 unfold z5i at h;split at h
 .rfl
 .rfl
 .rfl
 .exact h.elim
end
structure CInv (s:CS):Prop where
 none:∀ f,s.n<=f->zaa s.obj f=ze7
 vers:∀ f p,p∈(zaa s.obj f).rows->p.1 / 1024<s.n
 lim:s.lim<=s.n
theorem CInv.lt {s:CS} (h:CInv s) {f:Nat} (hr:(zaa s.obj f).ro=false):f<s.n:=by
 by_cases hn:f<s.n
 .exact hn
 .rw [h.none f (by omega)] at hr;simp [ze7] at hr
theorem CInv.next {s s':CS} (h:CInv s) (c:Can s s'):CInv s':=⟨c.none h.none,c.vers h.vers,by rw [c.lim];exact jv h.lim c.n⟩
theorem zky {s s':CS} {a:Addr} {vs:List Value} (hI:CInv s) (h:s.write a vs=some s'):Can s s':=by
 obtain ⟨cs,h1,h2,h3,_,h4⟩:=zkx h;exact zzf (x:=⟨false,[(ss a,splice cs a.off vs)],none⟩) h1 rfl (hI.lt h1) s.n (fp _) (fun hv p hp=>by simp at hp;subst hp;have:=hv _ _ (zjr h2);exact this) (by rw [h4])
theorem z2f {s s':CS} {a:Addr} {tag stop need:Nat} {cells:List Value} {v:Value} (hI:CInv s) (ht:tag<1024) (h:s.grow a tag stop need cells=some (v,s')):Can s s':=by
 obtain ⟨cs,h1,h2,_,_,h4⟩:=zne h;obtain ⟨_,_,d2,_⟩:=zjx h2
 exact zzf (x:=⟨false,(s.n*1024+tag,cells) :: zgw (zaa s.obj a.block).rows (ss a),none⟩) h1 rfl (hI.lt h1) (s.n+1) (by omega) (fun hv p hp=>by
  rcases kj.1 hp with rfl|hp
  .simp only;omega
  .have:=hv _ p (d2 p hp);omega) (by rw [h4])
theorem z4b {s s':CS} {r:Nat} {es:List (Value×Value)} (h:s.readMap r=some (es,s')):Can s s':=by
 obtain ⟨_,rfl⟩:=zrp h;exact z5e s r
section
variable {P:gn} {Γ:Env} {s s':CS} {v:Value}
theorem znx {x:Option Value} (h:retC s x=some (v,s')):Can s s':=by rw [(zjs h).2];exact jp _
theorem z6q {x:Option (Addr×CS)} (hx:∀ a s1,x=some (a,s1)->Can s s1) (h:ptrC x=some (v,s')):Can s s':=by
 obtain ⟨a,h1,_⟩:=z1f h;exact hx _ _ h1
theorem zld {x:Option (Addr×CS)} {len cap:Nat} (hx:∀ a s1,x=some (a,s1)->Can s s1) (h:zhz len cap x=some (v,s')):Can s s':=by
 obtain ⟨a,h1,_⟩:=zh7 h;exact hx _ _ h1
theorem zoy {i:TI} {a:Addr} (h:s.loadVar i a=some (v,s')):Can s s':=by
 unfold CS.loadVar at h
 cases hq:s.readRow a with
 |none=>rw [hq] at h;simp at h
 |some p =>
  obtain ⟨cs,s1⟩:=p;rw [hq] at h;simp only at h;split at h
  .simp only [fe,fm] at h;rw [<- h.2];exact znz hq
  .simp at h
theorem zqu {ρ:f7->Value} {o:Oper} {x:Option Value} (h:zhp P ρ o s x=some (v,s')):Can s s':=by
 unfold zhp at h
 cases x with
 |some y=>simp only [fe,fm] at h;rw [<- h.2];exact jp _
 |none=>exact znx h
theorem z8e {size:Nat} {e:Bool} {a:Addr} {x:Option (Nat×Nat×Nat)} (h:cutC s size e a x=some (v,s')):Can s s':=by
 obtain ⟨_,_,_,_,_,_,rfl⟩:=zu5 h;exact jp _
theorem zx7 {d:TypeDesc} {a:Addr} {lo hi mx:Option Value} (h:zoj Γ s d a lo hi mx=some (v,s')):Can s s':=by
 unfold zoj at h;split at h
 .split at h
  .rw [zcl] at h;split at h
   .exact z8e h
   .simp at h
  .simp at h
 .simp at h
theorem yad (hI:CInv s) {size bytes:Nat} {base:Option Addr} {len cap:Nat} {y:Value} (h:s.append size bytes base len cap y=some (v,s')):Can s s':=by
 unfold CS.append at h;split at h
 .simp at h
 .rename_i n hn;split at h
  .simp at h
  .rename_i new s1 hq;have c1:=(zf4 (σ:=fun _ _=>none) (V:=fun _=>True) (w:=default) hq).1;have hI1:=hI.next c1
   simp only at h
   cases hb:(Nat.blt 1000000000 ((len+n)*(bytes+1)) || fy size 0 || Nat.ble 1000 size || !(new.all oneC)) with
   |true=>rw [hb] at h;simp at h
   |false =>
    rw [hb] at h;simp only [cond_false] at h
    have hsz:size<1000:=by
     by_cases hh:size<1000
     .exact hh
     .simp only [mg] at hb;rw [zav.2 (by omega)] at hb;simp at hb
    cases base with
    |none =>
     simp only at h
     cases hn0:fy n 0 with
     |true=>rw [hn0] at h;simp only [cond_true,fe,fm] at h;rw [<- h.2];exact c1
     |false=>rw [hn0] at h;simp only [cond_false] at h;exact c1.trans (zld (fun a s2 hx=>zgc (by omega) hx) h)
    |some a =>
     simp only at h
     cases hroom:Nat.ble (len+n) cap with
     |true =>
      rw [hroom] at h;simp only [cond_true] at h
      cases hn0:fy n 0 with
      |true=>rw [hn0] at h;simp only [cond_true,fe,fm] at h;rw [<- h.2];exact c1
      |false =>
       rw [hn0] at h;simp only [cond_false] at h
       cases hw:s1.write (Addr.plus a (len*size)) new with
       |none=>rw [hw] at h;simp at h
       |some s2 =>
        rw [hw] at h;simp only [fe,fm] at h;rw [<- h.2];exact c1.trans (zky hI1 hw)
     |false =>
      rw [hroom] at h;simp only [cond_false] at h
      cases hold:(bif fy len 0 then some ([],s1) else s1.firstCells size len (.slice (some a) len cap)) with
      |none=>rw [hold] at h;simp at h
      |some p =>
       obtain ⟨old,s2⟩:=p;rw [hold] at h;simp only at h
       have c2:Can s1 s2:=by
        cases hl0:fy len 0 with
        |true =>
         rw [hl0] at hold;simp only [cond_true,fe,fm] at hold;rw [<- hold.2];exact jp _
        |false =>
         rw [hl0] at hold;simp only [cond_false] at hold;exact (zf4 (σ:=fun _ _=>none) (V:=fun _=>True) (w:=default) hold).1
       refine c1.trans (c2.trans ?_)
       cases ht0:fy (ss a % 1024) 0 with
       |true=>rw [ht0] at h;simp only [cond_true] at h;exact zld (fun a s2 hx=>zgc (by omega) hx) h
       |false =>
        rw [ht0] at h;simp only [cond_false] at h
        cases ht1:fy (ss a % 1024) (size+1) with
        |true=>rw [ht1] at h;simp only [cond_true] at h;exact z2f (hI1.next c2) (by omega) h
        |false=>rw [ht1] at h;simp at h
theorem zvw {s1:CS} {size n:Nat} {y:Value} {new:List Value} (h:s.firstCells size n y=some (new,s1)):Can s s1:=(zf4 (σ:=fun _ _=>none) (V:=fun _=>True) (w:=default) h).1
theorem zdm {x:Value} {s1:CS} (h:some (x,s1)=some (v,s')) (c:Can s s1):Can s s':=by
 simp only [fe,fm] at h;rw [<- h.2];exact c
theorem zfc {α:Type} {b:Bool} {x:Option α} {y:α} (h:(bif b then x else none)=some y):b=true/\x=some y:=by
 cases b
 .simp at h
 .exact ⟨rfl,h⟩
theorem zee {α:Type} {b:Bool} {x:Option α} {y:α} (h:sel b x none=some y):b=true/\x=some y:=by
 cases b
 .simp [sel] at h
 .exact ⟨rfl,h⟩
theorem yem {x:Option CS} (hx:∀ s1,x=some s1->Can s s1) (h:z94 x=some (v,s')):Can s s':=by
 cases x with
 |none=>simp [z94] at h
 |some s1=>exact (hx s1 rfl).trans (zdm h (jp _))
theorem yma (hI:CInv s) {call:zed} (hcall:∀ f args s v s',call f args s=some (v,s')->CInv s->Can s s') {ρ:f7->Value} {o:Oper} (h:cop P Γ call ρ o s=some (v,s')):Can s s':=by
 unfold cop at h;split at h
 .exact zdm h (jp _)
 .exact zdm h (jp _)
 .unfold zw3 at h;split at h
  .exact zdm h (jp _)
  .simp at h
 .unfold zm6 at h;split at h
  .exact z6q (fun a s1 hx=>zgc (by omega) hx) h
  .simp at h
 .exact z6q (fun a s1 hx=>zgc (by omega) hx) h
 .unfold zkn at h;split at h
  .split at h
   .obtain ⟨_,h⟩:=zee h;obtain ⟨_,_,_,rfl⟩:=zqn h;exact jp _
   .split at h
    .obtain ⟨_,_,_,rfl⟩:=zqn h;exact jp _
    .simp at h
   .simp at h
  .simp at h
 .unfold zcf at h;split at h
  .obtain ⟨_,h⟩:=zfc h;split at h
   .exact zld (fun a s1 hx=>zgc (by omega) hx) h
   .simp at h
  .simp at h
 .unfold zrs at h;split at h
  .split at h
   .exact zoy h
   .simp at h
  .simp at h
 .unfold zm4 at h;split at h
  .split at h
   .obtain ⟨_,h⟩:=zfc h;exact yem (fun s1 hw=>zky hI hw) h
   .simp at h
  .simp at h
 .exact zdm h (jp _)
 .unfold ze6 at h;split at h
  .obtain ⟨_,h⟩:=zfc h;exact zld (fun a s1 hx=>zgc (by omega) hx) h
  .simp at h
 .unfold zdj at h;split at h
  .split at h
   .split at h
    .obtain ⟨_,h⟩:=zfc h;unfold z8d at h;split at h
     .exact zdm h (jp _)
     .simp at h
    .simp at h
   .split at h
    .split at h
     .split at h
      .split at h
       .exact zdm h (jp _)
       .simp at h
      .simp at h
     .split at h
      .exact z8e h
      .simp at h
    .simp at h
   .split at h
    .split at h
     .exact zx7 h
     .simp at h
    .exact zx7 h
   .simp at h
  .simp at h
 .unfold zd6 at h;split at h
  .split at h
   .split at h
    .split at h
     .rename_i off size _
      cases hb:fy size 0 with
      |true=>rw [hb] at h;simp at h
      |false=>rw [hb] at h;exact zdm h (jp _)
     .simp at h
    .simp at h
   .simp at h
  .simp at h
 .unfold zb8 at h;split at h
  .split at h
   .split at h
    .split at h
     .rw [(znu h).2.2];exact jp _
     .simp at h
    .simp at h
   .split at h
    .split at h
     .rw [(znu h).2.2];exact jp _
     .simp at h
    .simp at h
   .simp at h
  .simp at h
 .unfold zkm at h;split at h
  .split at h
   .split at h
    .split at h
     .obtain ⟨_,h⟩:=zfc h;exact znx h
     .simp at h
    .simp at h
   .split at h
    .split at h
     .exact zdm h (jp _)
     .simp at h
    .simp at h
   .simp at h
  .simp at h
 .unfold zin at h;split at h
  .exact znx h
  .simp at h
 .exact zqu h
 .unfold zdz at h;split at h
  .split at h
   .split at h
    .exact zqu h
    .simp at h
   .split at h
    .obtain ⟨_,h⟩:=zfc h;exact zld (fun a s1 hx=>zgc (by omega) hx) h
    .exact zdm h (jp _)
    .simp at h
   .split at h
    .obtain ⟨_,h⟩:=zfc h;rename_i a n c _ _ _ _;unfold strC at h;split at h
     .split at h
      .rename_i l s1 hq _ _ _;exact (zvw hq).trans (zdm h (jp _))
      .simp at h
     .simp at h
    .split at h
     .unfold yda at h;split at h
      .rename_i s1 hq;obtain ⟨_,hq⟩:=zfc hq;exact (zky hI hq).trans (zdm h (jp _))
      .simp at h
     .simp at h
    .simp at h
   .exact znx h
  .simp at h
 .unfold zmj at h;split at h
  .exact zdm h (jp _)
  .exact zqu h
 .split at h
  .unfold zoh at h;split at h
   .exact hcall _ _ _ _ _ h hI
   .simp at h
  .unfold zfy at h;split at h
   .split at h
    .obtain ⟨_,h⟩:=zee h;unfold zc2 at h;split at h
     .split at h
      .exact yad hI h
      .simp at h
     .simp at h
    .simp at h
   .split at h
    .unfold zov at h;split at h
     .split at h
      .unfold z8h at h;obtain ⟨_,h⟩:=zfc h;split at h
       .rename_i hw;simp only [fe,fm] at h;obtain ⟨_,rfl⟩:=h;exact zky hI hw
       .simp at h
      .simp at h
     .simp at h
    .simp at h
   .split at h
    .unfold zmi at h;split at h
     .split at h
      .exact zdm h (jp _)
      .exact zdm h (jp _)
      .exact zdm h (jp _)
      .exact zdm h (jp _)
      .unfold z4s at h;split at h
       .rename_i hq;exact (z4b hq).trans (zdm h (jp _))
       .simp at h
      .simp at h
     .simp at h
    .simp at h
   .exact znx h
   .exact znx h
   .simp at h
  .simp at h
 .simp at h
end
section
variable {P:gn} {Γ:Env} {σ:Sg} {V:Nat->Prop} {s s':CS} {w:World} {v:Value}
theorem RL.mapOps {ρ ρ':f7->Value}:∀ {l:List f7},(∀ x,x∈l->VR σ (ρ x) (ρ' x))->RL (VR σ) (l.map ρ) (l.map ρ')
 |[],_=>trivial
 |x :: l,h=>⟨h x (by simp),RL.mapOps fun y hy=>h y (by simp [hy])⟩
def yoy (P:gn) (σ:Sg) (V:Nat->Prop) (s:CS) (w:World) (call:zed) (m:Sem Next) (v:Value) (s':CS):Prop :=
 (∃ f args args',m.run P w=(callFunc f args').run P w/\RL (VR σ) args args'.toList/\call f args s=some (v,s'))\/Did σ V s w (m.run P w) v s'
theorem yn2 {α:Type} {xs:Array α} {a b:α} (h:xs.toList=[a,b]):xs=#[a,b]:=n9.1 h
theorem ygu {α:Type} {xs:Array α} {a:α} (h:xs.toList=[a]):xs=#[a]:=n9.1 h
theorem zqv {ρ ρ':f7->Value} {x:Option f7} (h:∀ y,x=some y->VR σ (ρ y) (ρ' y)):OptR σ (x.map ρ) (x.map ρ'):=by
 cases x with
 |none=>trivial
 |some y=>exact h y rfl
theorem yhd (hE:zeb P Γ) (hr:Rel σ V s w) (hV:zcm V s') (hF:ze8 σ s.n s'.n) {call:zed} {ρ ρ':f7->Value} {o:Oper} {c:Call} (ho:o.op=.call c) (hρ:∀ x,x∈o.op.operands.toList->VR σ (ρ x) (ρ' x))
    (h:(match c.callee with
      |.value f=>zoh call s (c.args.toList.map ρ) (ρ f)
      |.builtin b=>zfy P Γ ρ o s b c.args.toList c.argTypes.toList
      |_=>none)=some (v,s')):yoy P σ V s w call (mm ρ' o) v s':=by
  have hargs:∀ x,x∈c.args.toList->VR σ (ρ x) (ρ' x):=fun x hx=>hρ x (by rw [ho];simp [gw,Call.operands];right;simpa using hx);have hex:mm ρ' o=(do let d <- resolve ρ' c o.type;invoke d.target d.args):=by simp [mm,ho]
  have hsel:∀ cs b,o.op≠.select cs b:=by intro cs b;rw [ho];simp
  split at h
  . rename_i f hc;have hf:VR σ (ρ f) (ρ' f):=hρ f (by rw [ho];simp [gw,Call.operands,hc]);unfold zoh at h;split at h
    . rename_i g first captured hfn
      rw [hfn] at hf;obtain ⟨first',captured',hf',h1,h2⟩:=hf.out;refine .inl ⟨g,_,first'++c.args.map ρ'++captured',?_,?_,h⟩
      . rw [hex];simp [resolve,hc,hf',Deferred.ofValue,invoke,Array.append_assoc]
      . simp only [Array.toList_append,pa];exact (h1.append (RL.mapOps hargs)).append h2
    . simp at h
  . rename_i b hc;right;have hres:(resolve ρ' c o.type)=pure { target:=.builtin b c.argTypes o.type (c.args.map fun|.const _=>true|_=>false),args:=c.args.map ρ' }:=by unfold resolve;rw [hc];rfl
    unfold zfy at h;split at h
    . split at h
      . rename_i x y t tx ha ht;obtain ⟨htx,h⟩:=zee h;have vx:=hargs x (by rw [ha];simp);have vy:=hargs y (by rw [ha];simp);have hd:=yac (ty:=o.type) hE hr hV hF h htx vx vy;rw [hex,hres];rw [yn2 ha,yn2 ht];have:=hd.up;simpa [invoke,builtin] using this
      . simp at h
    . split at h
      . rename_i x t ha ht;have vx:=hargs x (by rw [ha];simp);have hd:=yev (ty:=o.type) hE hr hV h vx;rw [hex,hres];rw [ygu ha,ygu ht];have:=hd.up;simpa [invoke,builtin] using this
      . simp at h
    . split at h
      . rename_i x t ha ht;have vx:=hargs x (by rw [ha];simp);have hd:=ylv (ty:=o.type) hE hr hV h vx;rw [hex,hres];rw [ygu ha,ygu ht];have:=hd.up;simpa [invoke,builtin] using this
      . simp at h
    . obtain ⟨h1,rfl⟩:=zjs h;obtain ⟨h2,h3⟩:=zpr (w:=w) hsel h1 hρ;exact rn hr h2 h3
    . obtain ⟨h1,rfl⟩:=zjs h;obtain ⟨h2,h3⟩:=zpr (w:=w) hsel h1 hρ;exact rn hr h2 h3
    . simp at h
  . simp at h
theorem yl9 (hE:zeb P Γ) (hr:Rel σ V s w) (hV:zcm V s') (hF:ze8 σ s.n s'.n) {call:zed} {ρ ρ':f7->Value} {o:Oper} (hρ:∀ x,x∈o.op.operands.toList->VR σ (ρ x) (ρ' x))
    (h:cop P Γ call ρ o s=some (v,s')):yoy P σ V s w call (mm ρ' o) v s':=by
  obtain ⟨dst,op,type,pos,after,guard⟩:=o;unfold cop at h;simp only at hρ h
  cases op with
  |move x =>
    simp only [fe,fm] at h;obtain ⟨rfl,rfl⟩:=h;exact .inr (rn hr rfl (hρ x (by simp [gw])))
  |assign x =>
    simp only [fe,fm] at h;obtain ⟨rfl,rfl⟩:=h;exact .inr (rn hr rfl (hρ x (by simp [gw])))
  |pick c a b=>exact .inr (yga (P:=P) hr h (hρ a (by simp [gw])) (hρ b (by simp [gw])) (hρ c (by simp [gw])))
  |alloc e=>exact .inr (yfc hE hr hF h).up
  |box e x=>exact .inr (ymm (P:=P) (e:=e) hr hF h (hρ x (by simp [gw]))).up
  |build t parts=>exact .inr (ye4 hE hr h (fun p hp=>hρ p.2 (by simp [gw];exact ⟨p.1,by simpa using hp⟩))).up
  |buildSlice t n parts=>exact .inr (zvx hE hr hF h (fun p hp=>hρ p.2 (by simp [gw];exact ⟨p.1,by simpa using hp⟩))).up
  |load t x=>exact .inr (ygt hE hr hV h (hρ x (by simp [gw]))).up
  |store t x y=>exact .inr (ya7 hE hr hV h (hρ x (by simp [gw])) (hρ y (by simp [gw])))
  |makeFunc fn first captured =>
    simp only [fe,fm] at h;obtain ⟨rfl,rfl⟩:=h;refine .inr (rn (v':=.func fn (first.map ρ') (captured.map ρ')) hr (by simp [mm,Instr.makeFunc]) (VR.mk ⟨_,_,rfl,?_,?_⟩))
    . simp only [pa];exact RL.mapOps fun x hx=>hρ x (by simp [gw];left;simpa using hx)
    . simp only [pa];exact RL.mapOps fun x hx=>hρ x (by simp [gw];right;simpa using hx)
  |makeSlice t l c=>exact .inr (zzp hE hr hF h (hρ l (by simp [gw])) (hρ c (by simp [gw]))).up
  |slice t x lo hi mx =>
    refine .inr (ybh hE hr h (hρ x (by simp [gw])) (zqv fun y hy=>hρ y ?_) (zqv fun y hy=>hρ y ?_) (zqv fun y hy=>hρ y ?_)).up
    . simp [gw,hy]
    . simp [gw,hy]
    . simp [gw,hy]
  |fieldAddr t x k=>exact .inr (zzz hE hr h (hρ x (by simp [gw]))).up
  |indexAddr t x ix=>exact .inr (zzu hE hr h (hρ x (by simp [gw])) (hρ ix (by simp [gw]))).up
  |index t x ix=>exact .inr (ydt hE hr h (hρ x (by simp [gw])) (hρ ix (by simp [gw]))).up
  |extract x k=>exact .inr (z43 (P:=P) hr h (hρ x (by simp [gw]))).up
  |unOp op t x =>
    refine .inr (zqt hr (by intro cs b;simp) h hρ fun y hy=>?_);obtain ⟨h1,h2⟩:=yk3 (P:=P) (w:=w) hy (hρ x (by simp [gw]));exact ⟨by simp [mm,h1],h2⟩
  |convert src dst x=>exact .inr (z49 hE hr hV hF rfl h hρ)
  |binOp op t x y yt=>exact .inr (ymo hE hr rfl h hρ)
  |call c=>exact yhd hE hr hV hF rfl hρ h
  |_=>simp at h
end
def zj0 (G:List Nat) (σ:Sg):Prop:=∀ g,has G g=true->∃ z,σ g (g*1024)=some (g,0,z)
theorem zj0.up {G:List Nat} {σ σ':Sg} (h:zj0 G σ) (k:Sg.le σ σ'):zj0 G σ':=fun g hg=>let ⟨z,hz⟩:=h g hg;⟨z,k _ _ _ hz⟩
structure FrR (σ:Sg) (fr:Fr) (a:Act):Prop where
 size:fr.nt=a.tmps.size
 small:fr.nt<=512
 val:∀ t,VR σ (fr.get t) (a.tmps.getD t undef)
theorem FrR.up {σ σ':Sg} {fr:Fr} {a:Act} (h:FrR σ fr a) (k:Sg.le σ σ'):FrR σ' fr a:=⟨h.size,h.small,fun t=>(h.val t).mono k⟩
theorem Fr.put_nt (fr:Fr) (t:Nat) (v:Value):(fr.put t v).nt=fr.nt:=by
 unfold Fr.put;rw [zcl];split<;>rfl
theorem Fr.get_put_same {fr:Fr} {t:Nat} (v:Value) (h:t<fr.nt) (h5:fr.nt<=512):(fr.put t v).get t=v:=by
 unfold Fr.put Fr.get;rw [zad.2 h,zbe,zad.2 (show t<512 by omega),zbe];exact Tr.get_set_same _ _ _ _
theorem Fr.get_put_other {fr:Fr} {t u:Nat} (v:Value) (h5:fr.nt<=512) (hne:t≠u):(fr.put t v).get u=fr.get u:=by
 unfold Fr.put Fr.get;rw [zcl (Nat.blt t fr.nt)];split
 .rename_i h;have h:=zad.1 h;rw [zcl,zcl];split
  .rename_i hu;have hu:=zad.1 hu;exact Tr.get_set_other _ 9 _ _ _ hne (by show t<512;omega) (by show u<512;exact hu)
  .rfl
 .rfl
theorem Act.put_size (a:Act) (d:Option Tmp) (v:Value):(a.put d v).tmps.size=a.tmps.size:=by cases d<;>simp [Act.put]
theorem Act.put_defers' (a:Act) (d:Option Tmp) (v:Value):(a.put d v).defers=a.defers:=by cases d<;>rfl
theorem Act.getD_put_same {a:Act} {t:Nat} (v:Value) (h:t<a.tmps.size):(a.put (some t) v).tmps.getD t undef=v:=by
 simp [Act.put,h]
theorem Act.getD_put_other {a:Act} {t u:Nat} (v:Value) (hne:t≠u):(a.put (some t) v).tmps.getD u undef=a.tmps.getD u undef:=by
 simp [Act.put,Array.getElem?_setIfInBounds_ne hne]
theorem FrR.put {σ:Sg} {fr:Fr} {a:Act} {v v':Value} (h:FrR σ fr a) (hv:VR σ v v') {d:Option Tmp} (hd:∀ t,d=some t->t<fr.nt):FrR σ (putC fr d v) (a.put d v'):=by
 cases d with
 |none=>exact h
 |some t =>
  have ht:=hd t rfl;refine ⟨by rw [Act.put_size];show (fr.put t v).nt=_;rw [Fr.put_nt];exact h.size,by show (fr.put t v).nt<=512;rw [Fr.put_nt];exact h.small,fun u=>?_⟩;show VR σ ((fr.put t v).get u) _;by_cases htu:t=u
  .subst htu;rw [Fr.get_put_same v ht h.small,Act.getD_put_same v' (by rw [<- h.size];exact ht)];exact hv
  .rw [Fr.get_put_other v h.small htu,Act.getD_put_other v' htu];exact h.val u
theorem zu0 {G:List Nat} {σ:Sg} {fr:Fr} {a:Act} (hG:zj0 G σ) {x:f7} (hx:zlg G x=true) (h:∀ t,x=.tmp t->VR σ (fr.get t) (a.tmps.getD t undef)):VR σ (zg6 fr x) (a.eval x):=by
 cases x with
 |tmp t=>exact h t rfl
 |const v=>exact zv4 hx
 |global g =>
  obtain ⟨z,hz⟩:=hG g hx;refine VR.mk ⟨g,0,z,?_,rfl⟩;exact hz
 |func f=>exact VR.mk ⟨#[],#[],rfl,trivial,trivial⟩
theorem yg9 (ops:Array Oper) (j:Nat):zo0 ops.toList j=(ops[j]?).bind (·.dst):=by
 unfold zo0;rw [ki];cases ops[j]?<;>rfl
theorem VR.boolR {σ:Sg} {v:Value} {b:Bool} (h:VR σ v (.bool b)):v=.bool b:=by
 have:=h.out
 cases v with
 |bool a=>have:=VR.bool h;simpa using this.symm
 |pointer a=>cases a with
  |none=>simp [zo3] at this
  |some a=>obtain ⟨_,_,_,_,hq⟩:=this;simp at hq
 |slice a n c=>cases a with
  |none=>obtain ⟨_,_,hq⟩:=this;simp at hq
  |some a=>obtain ⟨_,_,_,_,_,_,hq,_⟩:=this;simp at hq
 |map r=>cases r with
  |none=>simp [zo3] at this
  |some r=>obtain ⟨_,_,_,_,hq⟩:=this;simp at hq
 |func fn xs ys=>obtain ⟨_,_,hq,_⟩:=this;simp at hq
 |iface t x=>obtain ⟨_,hq,_⟩:=this;simp at hq
 |agg xs=>obtain ⟨_,hq,_⟩:=this;simp at hq
 |tuple xs=>obtain ⟨_,hq,_⟩:=this;simp at hq
 |int k n=>simp [zo3] at this
 |string s=>simp [zo3] at this
 |nilFunc=>simp [zo3] at this
 |nilIface=>simp [zo3] at this
 |float k b=>exact this.elim
 |complex k a b=>exact this.elim
 |chan r=>exact this.elim
theorem z84 {σ:Sg} {fr:Fr} {a:Act} {ops:Array Oper} {o:Oper} (h:∀ g b d,o.guard=some (g,b)->zo0 ops.toList g=some d->d<a.tmps.size/\VR σ (fr.get d) (a.tmps.getD d undef)) :
    Region.wanted o (yielded ops a.tmps)=zc8 ops.toList fr o:=by
  unfold zc8;unfold Region.wanted
  cases hg:o.guard with
  |none=>rfl
  |some p =>
    obtain ⟨j,want⟩:=p;simp only;unfold yielded;rw [<- yg9]
    cases hd:zo0 ops.toList j with
    |none=>rfl
    |some d =>
      simp only [Option.bind_some];obtain ⟨hlt,hv⟩:=h j want d hg hd;have hget:a.tmps[d]?=some (a.tmps.getD d undef):=by simp [hlt]
      rw [hget];generalize a.tmps.getD d undef=u at hv;split
      . rename_i b hb;simp only [fe] at hb;subst hb;rw [hv.boolR];simp
      . rename_i hn;split
        . rename_i b hb;rw [hb] at hv;exact absurd (congrArg some hv.bool) (hn b)
        . rfl
def zr5 (P:gn) (G:List Nat) (call:zed):Prop:=∀ f (args:List Value) (args':Array Value) s v s' w σ V,call f args s=some (v,s')->RL (VR σ) args args'.toList->Rel σ V s w->zcm V s'->ze8 σ s.n s'.n->CInv s->zj0 G σ ->
 ∃ x,(callFunc f args').run P w=.ok (.enter x args') w/\Calls P x args' w fun e w'=>∃ σ' v',e=.returned v'/\VR σ' v v'/\Rel σ' V s' w'/\Ext σ V s w σ' s' w'
def zie (call:zed):Prop:=∀ f args s v s',call f args s=some (v,s')->CInv s->Can s s'
section
variable {P:gn} {Γ:Env} {σ:Sg} {V:Nat->Prop} {s s':CS} {w:World} {G:List Nat} {call:zed}
theorem zmo {ops:List Oper} {o:Oper} {fr fr':Fr} (hc:zie call) (hI:CInv s) (h:zcs P Γ call ops o fr s=some (fr',s')):Can s s':=by
 unfold zcs at h
 cases hw:zc8 ops fr o with
 |false=>rw [hw] at h;simp only [cond_false,fe,fm] at h;rw [<- h.2];exact jp _
 |true =>
  rw [hw] at h;simp only [cond_true] at h
  cases hq:cop P Γ call (zg6 fr) o s with
  |none=>rw [hq] at h;simp at h
  |some p =>
   obtain ⟨v,s1⟩:=p;rw [hq] at h;simp only [fe,fm] at h;rw [<- h.2];exact yma hI (fun f args s v s' h1 h2=>hc f args s v s' h1 h2) hq
def zlm (r:Option Nat):Fence:={ me with round:=r }
theorem yko {r:Option Nat} {n:Nat} {f:FuncId} {args:Array Value} {w:World} {R:Ending->World->Prop}:CallsIn (zlm r) n P f args w R↔Calls P f args w R:=callsIn_wide
theorem ybo {r:Option Nat} {o:Oper} {ρ:f7->Value} {ρ':f7->Value} {p:Value×CS} (h:cop P Γ call ρ o s=some p):o.semAt r ρ'=mm ρ' o:=by
 cases r with
 |none=>exact Oper.semAt_none _ _
 |some l =>
  refine Oper.semAt_some l _ _ fun c hc=>?_;unfold cop at h;rw [hc] at h;simp at h
variable {r:Option Nat} {kd:Nat}
theorem ya8 (hE:zeb P Γ) (hC:zr5 P G call) (hr:Rel σ V s w) (hV:zcm V s') (hF:ze8 σ s.n s'.n) (hI:CInv s) (hG:zj0 G σ) {ops:Array Oper} {o:Oper} {fr fr':Fr} {a:Act} (hops:o.op.operands.toList.all (zlg G)=true)
    (hnames:∀ t,Operand.tmp t∈o.op.operands.toList->VR σ (fr.get t) (a.tmps.getD t undef)) (hguard:∀ g b d,o.guard=some (g,b)->zo0 ops.toList g=some d->d<a.tmps.size/\VR σ (fr.get d) (a.tmps.getD d undef))
    (h:zcs P Γ call ops.toList o fr s=some (fr',s')) {K:Act->World->Prop} {Q:Exit->Act->World->Prop}
    (hK:∀ σ' v v' w',fr'=putC fr o.dst v->VR σ' v v'->Rel σ' V s' w'->Ext σ V s w σ' s' w'->K (a.put o.dst v') w') :
    if Region.wanted o (yielded ops a.tmps) then o.wpIn (zlm r) kd P a w K Q else (∀ f,o.about P w a.eval=some f->(zlm r).fn f)/\K (a.put o.dst undef) w:=by
  rw [z84 (fr:=fr) hguard];unfold zcs at h
  cases hw:zc8 ops.toList fr o with
  |false =>
    rw [hw] at h;simp only [cond_false,fe,fm] at h;obtain ⟨rfl,rfl⟩:=h;rw [zAd (by simp)];exact ⟨fun _ _=>trivial,hK σ undef undef w rfl VR.undef hr (qq _ _ _ _)⟩
  |true =>
    rw [hw] at h;simp only [cond_true] at h;rw [zAc rfl]
    cases hq:cop P Γ call (zg6 fr) o s with
    |none=>rw [hq] at h;simp at h
    |some p =>
      obtain ⟨v,s1⟩:=p;rw [hq] at h;simp only [fe,fm] at h;obtain ⟨rfl,rfl⟩:=h;have hρ:∀ x,x∈o.op.operands.toList->VR σ (zg6 fr x) (a.eval x):=fun x hx=>zu0 hG (ib.1 hops x hx) fun t ht=>hnames t (by rw [<- ht];exact hx);refine ⟨fun _ _=>trivial,?_⟩;show o.uponIn (zlm r) kd P a K Q ((o.semAt r a.eval).run P w);rw [ybo hq];rcases yl9 hE hr hV hF hρ hq with ⟨f,args,args',h1,h2,h3⟩|⟨σ',w',nx,v',h1,h2,h3,h4,h5⟩
      . obtain ⟨x,h4,h5⟩:=hC f args args' s v s1 w σ V h3 h2 hr hV hF hI hG;rw [h1,h4,Oper.uponIn_enter];refine ⟨fun hd=>absurd hd (by simp [zlm,me]),yko.2 (h5.mono ?_)⟩;rintro e w' ⟨σ',v',rfl,k1,k2,k3⟩;exact hK σ' v v' w' rfl k1 k2 k3
      . rw [h1];rcases h2 with rfl|⟨rfl,rfl⟩
        . exact hK σ' v v' w' rfl h3 h4 h5
        . exact hK σ' v undef w' rfl h3 h4 h5
theorem z34 {ops:List Oper} (hc:zie call):∀ {l:List Oper} {fr fr':Fr} {s s':CS},CInv s->runC P Γ call ops l fr s=some (fr',s')->Can s s'
 |[],fr,fr',s,s',hI,h=>by simp only [runC,fe,fm] at h;rw [<- h.2];exact jp _
 |o :: l,fr,fr',s,s',hI,h=>by
  simp only [runC] at h
  cases hq:zcs P Γ call ops o fr s with
  |none=>rw [hq] at h;simp at h
  |some p =>
   obtain ⟨fr1,s1⟩:=p;rw [hq] at h;have c1:=zmo hc hI hq;exact c1.trans (z34 hc (hI.next c1) h)
theorem yii (hE:zeb P Γ) (hC:zr5 P G call) (hc:zie call) {ops:Array Oper} {Q:Exit->Act->World->Prop}:∀ {l:List Oper} {σ:Sg} {fr fr':Fr} {s s':CS} {w:World} {a:Act},(∀ o,o∈l->zm3 G fr.nt o=true)->(∀ o,o∈ops.toList->zm3 G fr.nt o=true) ->
    Rel σ V s w->zcm V s'->ze8 σ s.n s'.n->CInv s->zj0 G σ->FrR σ fr a->runC P Γ call ops.toList l fr s=some (fr',s') ->
    (∀ σ' a' w',FrR σ' fr' a'->a'.defers=a.defers->Rel σ' V s' w'->Ext σ V s w σ' s' w'->Q .normal a' w')->wpListIn (zlm r) kd P ops Q l a w
  |[],σ,fr,fr',s,s',w,a,hl,hl2,hr,hV,hF,hI,hG,hfr,h,hQ=>by
    simp only [runC,fe,fm] at h;obtain ⟨rfl,rfl⟩:=h;exact hQ σ a w hfr rfl hr (qq _ _ _ _)
  |o :: l,σ,fr,fr',s,s',w,a,hl,hl2,hr,hV,hF,hI,hG,hfr,h,hQ=>by
    simp only [runC] at h
    cases hq:zcs P Γ call ops.toList o fr s with
    |none=>rw [hq] at h;simp at h
    |some p =>
      obtain ⟨fr1,s1⟩:=p;rw [hq] at h;simp only at h;have c1:=zmo hc hI hq;have hI1:=hI.next c1
      have c2:=z34 hc hI1 h;have ho:=hl o (by simp);unfold zm3 at ho;rw [fj] at ho;unfold wpListIn;refine ya8 hE hC hr (hV.back c2) (hF.mono (fp _) c2.n) hI hG ho.1 (fun t _=>hfr.val t) ?_ hq ?_
      . intro g b d _ hd;refine ⟨?_,hfr.val d⟩;unfold zo0 at hd
        cases hog:ops.toList[g]? with
        |none=>rw [hog] at hd;simp at hd
        |some og =>
          rw [hog] at hd;simp only at hd;have:=hl2 og (jl hog);unfold zm3 at this;rw [fj,hd] at this;rw [<- hfr.size];exact zad.1 this.2
      . intro σ' v v' w' hf hv hr' he';subst hf
        have hd:∀ t,o.dst=some t->t<fr.nt:=by
          intro t ht;have:=ho.2;rw [ht] at this;exact zad.1 this
        have hfr':=(hfr.up he'.le).put (v:=v) (v':=v') hv (d:=o.dst) hd
        have hnt:(putC fr o.dst v).nt=fr.nt:=by
          cases o.dst with
          |none=>rfl
          |some t=>exact Fr.put_nt _ _ _
        refine yii hE hC hc (l:=l) (by rw [hnt];exact fun o' ho'=>hl o' (by simp [ho'])) (by rw [hnt];exact hl2) hr' hV (hF.next he' c1) hI1 (hG.up he'.le) hfr' h ?_;intro σ2 a2 w2 k1 k2 k3 k4;exact hQ σ2 a2 w2 k1 (by rw [k2,Act.put_defers']) k3 (he'.trans k4 c1 c2 hF hI.none)
end
theorem zl0 {lim:Nat}:∀ {xs l:List Nat} {f:Nat},f∈l->f∈zui lim l xs
 |[],_,_,h=>h
 |_ :: xs,_,_,h=>zl0 (xs:=xs) (z4x h)
theorem zn4 {lim:Nat}:∀ {xs l:List Nat} {f:Nat},f∈xs->f<lim->f∈zui lim l xs
 |x :: xs,l,f,h,hl=>by
  rcases kj.1 h with rfl|h
  .refine zl0 (xs:=xs) ?_;rcases zpz (lim:=lim) (l:=l) (n:=f) with h|h
   .exact h
   .omega
  .exact zn4 (xs:=xs) h hl
theorem zt9:∀ {l:List Nat} {n:Nat},n∈l->has l n=true
 |x :: l,n,h=>by
  simp only [has]
  cases hb:fy x n with
  |true=>rfl
  |false =>
   simp only [cond_false];rcases kj.1 h with rfl|h
   .rw [Nat.beq_refl] at hb;simp at hb
   .exact zt9 h
theorem zqy {a b:List Nat} (h:meet a b=false) {f:Nat} (ha:f∈a):f ∉ b:=by
 intro hb;unfold meet at h;rw [pu] at h;exact h f ha (zt9 hb)
theorem zrd {lo hi:Nat} {l:List Nat} (h:zv6 lo hi l=false) {f:Nat} (hf:f∈l):¬ (lo<=f/\f<hi):=by
 intro hb;unfold zv6 at h;rw [pu] at h;exact h f hf (by rw [zav.2 hb.1,zad.2 hb.2];rfl)
theorem z63 {α:Type} (d:α):∀ (l:List α) (j i:Nat),nth d (l.take j) i=if i<j then nth d l i else d
 |[],j,i=>by simp [nth]
 |x :: l,0,i=>by simp [nth]
 |x :: l,j+1,0=>by simp [nth]
 |x :: l,j+1,i+1=>by
  simp only [List.take_succ_cons,nth];rw [z63 d l j i];by_cases h:i<j
  .rw [zAc h,zAc (by omega)]
  .rw [zAd h,zAd (by omega)]
theorem zw6 {α:Type} (d:α):∀ (l m:List α) (i:Nat),nth d (l++m) (l.length+i)=nth d m i
 |[],m,i=>by simp
 |x :: l,m,i=>by
  show nth d (x :: (l++m)) ((l.length+1)+i)=_;rw [show l.length+1+i=(l.length+i)+1 by omega];exact zw6 d l m i
theorem zxg:∀ (l:List Oper) (ms:List Nat),(∃ r,zdn l ms=ms++r)/\∀ (k:Nat) (o:Oper),l[k]?=some o->nth 0 (zdn l ms) (ms.length+k)=zoi ((zdn l ms).take (ms.length+k)) o.after.toList
 |[],ms=>⟨⟨[],by simp [zdn]⟩,fun k o h=>by simp at h⟩
 |o :: l,ms=>by
  obtain ⟨⟨r,hr⟩,hs⟩:=zxg l (ms++[zoi ms o.after.toList]);refine ⟨⟨zoi ms o.after.toList :: r,by simp only [zdn];rw [hr];simp⟩,fun k o' h=>?_⟩;simp only [zdn]
  cases k with
  |zero =>
   simp only [gz,fe] at h;subst h;rw [hr,gj,zw6]
   simp only [Nat.add_zero,List.take_left,List.singleton_append,nth]
  |succ k =>
   have:=hs k o' (by simpa using h);rw [List.length_append,List.length_singleton,show ms.length+1+k=ms.length+(k+1) by omega] at this;exact this
theorem zqz:∀ {es:List Edge} {ms:List Nat} {i:Nat},i6 (zoi ms es) i=true->∃ e,e∈es/\l8 .any e=true/\(i=e.on\/i6 (nth 0 ms e.on) i=true)
 |e :: es,ms,i,h=>by
  simp only [zoi] at h
  cases hb:l8 .any e with
  |false =>
   rw [hb] at h;obtain ⟨e',h1,h2,h3⟩:=zqz (es:=es) h;exact ⟨e',by simp [h1],h2,h3⟩
  |true =>
   rw [hb] at h;have h':i6 (2 ^ e.on ||| nth 0 ms e.on ||| zoi ms es) i=true:=h;rw [Nat.testBit_or,Nat.testBit_or,l7,l7] at h';rcases h' with (h' | h')|h'
   .refine ⟨e,by simp,hb,.inl ?_⟩;rw [Nat.testBit_two_pow] at h';exact (zAe h').symm
   .exact ⟨e,by simp,hb,.inr h'⟩
   .obtain ⟨e',h1,h2,h3⟩:=zqz (es:=es) h';exact ⟨e',by simp [h1],h2,h3⟩
 |[],ms,i,h=>by simp [zoi] at h
theorem zub {ops:List Oper} {E:Nat->Prop} (hE:∀ (j:Nat) (o:Oper),ops[j]?=some o->E j->∀ e,e∈o.after.toList->l8 .any e=true->E e.on) :
    ∀ (j:Nat) (o:Oper),ops[j]?=some o->(∀ e,e∈o.after.toList->l8 .any e=true->E e.on)->∀ i,i6 (nth 0 (zdn ops []) j) i=true->E i:=by
  intro j
  induction j using Nat.strongRecOn with
  |_ j ih =>
    intro o ho hp i hi;have:=(zxg ops []).2 j o ho;simp only [List.length_nil,Nat.zero_add] at this;rw [this] at hi;obtain ⟨e,h1,h2,h3⟩:=zqz hi;have he:=hp e h1 h2;rcases h3 with rfl|h3
    . exact he
    . rw [z63] at h3;split at h3
      . rename_i hlt;have hj:=(ge.1 ho).1;obtain ⟨o',ho'⟩:∃ o',ops[e.on]?=some o':=⟨_,fk (by omega)⟩;exact ih e.on hlt o' ho' (hE e.on o' ho' he) i h3
      . simp at h3
theorem zr1 {α:Type} {bad:α->α->Bool} {m:Nat} {y:α}:∀ {l:List α} {i:Nat},zid bad m y l i=true->∀ (k:Nat) (x:α),l[k]?=some x->i6 m (i+k)=true\/bad x y=false
 |x :: l,i,h,k,x',hk=>by
  simp only [zid,fj,l7] at h
  cases k with
  |zero =>
   simp only [gz,fe] at hk;subst hk;rcases h.1 with h|h
   .exact .inl h
   .exact .inr (by simpa using h)
  |succ k =>
   have:=zr1 h.2 k x' (by simpa using hk)
   rwa [show i+1+k=i+(k+1) by omega] at this
 |[],_,_,k,x,hk=>by simp at hk
theorem zf7 {α:Type} {bad:α->α->Bool} {ms:List Nat}:∀ {l done:List α},zgo bad done l ms=true->∀ (i j:Nat) (x y:α),i<j->done.length<=j->(done++l)[i]?=some x->(done++l)[j]?=some y->i6 (nth 0 ms j) i=true\/bad x y=false
 |[],done,_,i,j,x,y,hij,hd,hx,hy=>by
  have:=(ge.1 hy).1;simp at this;omega
 |z :: l,done,h,i,j,x,y,hij,hd,hx,hy=>by
  simp only [zgo,fj] at h;by_cases hj:j=done.length
  .subst hj;rw [im (fp _)] at hy;simp only [Nat.sub_self,gz,fe] at hy;subst hy;rw [gi hij] at hx;have:=zr1 h.1 i x hx;simpa using this
  .exact zf7 h.2 i j x y hij (by simp;omega) (by simpa using hx) (by simpa using hy)
theorem zx2:∀ {l:List Oper} {i:Nat},zz3 l i=true->∀ (k:Nat) (o:Oper),l[k]?=some o->∀ e,e∈o.after.toList->l8 .any e=true->e.on<i+k
 |o :: l,i,h,k,o',hk,e,he,hb=>by
  simp only [zz3,fj] at h
  cases k with
  |zero =>
   simp only [gz,fe] at hk;subst hk;have:=ib.1 h.1 e he;rw [hb] at this;simp only [Bool.not_true,Bool.false_or] at this;have:=zad.1 this;omega
  |succ k =>
   have:=zx2 h.2 k o' (by simpa using hk) e he hb;omega
 |[],_,_,k,o,hk,_,_,_=>by simp at hk
theorem zwa {ops:List Oper} {x y:Oper} (h:zwb ops x y=false) {d:Nat} (hx:x.dst=some d):d ∉ zff ops y/\y.dst≠some d:=by
 unfold zwb at h;rw [hx,mg] at h;simp only [mg] at h;refine ⟨fun k=>by rw [zt9 k] at h;simp at h,fun k=>?_⟩;rw [k] at h;simp at h
theorem z0k {ops:List Oper} {x y:Oper} (h:zwb ops x y=false) {d:Nat} (hy:y.dst=some d):d ∉ zff ops x:=by
 unfold zwb at h;rw [hy,mg] at h;intro k;have h2:has (zff ops x) d=false:=h.2;rw [zt9 k] at h2;simp at h2
theorem z5b {x y:Lg} (h:clash x y=false):(∀ f,f∈x.wr->f ∉ y.rd/\f ∉ y.wr)/\(∀ f,f∈x.rd->f ∉ y.wr)/\(∀ f,(f∈y.rd\/f∈y.wr)->¬ (x.lo<=f/\f<x.hi)):=by
 unfold clash at h;simp only [mg] at h;obtain ⟨⟨⟨⟨h1,h2⟩,h3⟩,h4⟩,h5⟩:=h;exact ⟨fun f hf=>⟨zqy h1 hf,zqy h2 hf⟩,fun f hf=>zqy h3 hf,fun f hf=>hf.elim (zrd h4) (zrd h5)⟩
theorem z1z (p:Nat->Prop):∀ n,(∀ k,k<n->¬ p k)\/∃ m,m<n/\p m/\∀ k,k<n->p k->k<=m
 |0=>.inl fun k hk=>by omega
 |n+1=>by
  by_cases hp:p n
  .exact .inr ⟨n,by omega,hp,fun k hk _=>by omega⟩
  .rcases z1z p n with h|⟨m,h1,h2,h3⟩
   .refine .inl fun k hk hpk=>?_;by_cases hkn:k=n
    .subst hkn;exact hp hpk
    .exact h k (by omega) hpk
   .refine .inr ⟨m,by omega,h2,fun k hk hpk=>?_⟩;by_cases hkn:k=n
    .subst hkn;exact absurd hpk hp
    .exact h3 k (by omega) hpk
structure you (P:gn) (Γ:Env) (call:zed) (ops l:List Oper) (fr:Fr) (s:CS) (logs:List Lg) (fr':Fr) (s':CS) (F:Nat->Fr) (S T:Nat->CS):Prop where
 f0:F 0=fr
 s0:S 0=s
 fN:F l.length=fr'
 sN:S l.length=s'
 len:logs.length=l.length
 step:∀ (i:Nat) (o:Oper),l[i]?=some o->zcs P Γ call ops o (F i) (S i).inner=some (F (i+1),T i)/\S (i+1)=(S i).outer (T i)/\logs[i]?=some ⟨(T i).rd,(T i).wr,(S i).n,(T i).n⟩
section
variable {P:gn} {Γ:Env} {call:zed}
theorem zx3 {ops:List Oper}:∀ {l:List Oper} {fr fr':Fr} {s s':CS} {logs:List Lg},drawC P Γ call ops l fr s=some (logs,fr',s')->∃ F S T,you P Γ call ops l fr s logs fr' s' F S T
 |[],fr,fr',s,s',logs,h=>by
  simp only [drawC,fe,fm] at h;obtain ⟨rfl,rfl,rfl⟩:=h;exact ⟨fun _=>fr,fun _=>s,fun _=>s,rfl,rfl,rfl,rfl,rfl,fun i o h=>by simp at h⟩
 |o :: l,fr,fr',s,s',logs,h=>by
  simp only [drawC] at h
  cases hq:zcs P Γ call ops o fr s.inner with
  |none=>rw [hq] at h;simp at h
  |some p =>
   obtain ⟨fr1,t⟩:=p;rw [hq] at h;simp only at h
   cases hd:drawC P Γ call ops l fr1 (s.outer t) with
   |none=>rw [hd] at h;simp at h
   |some q =>
    obtain ⟨logs1,fr2,s2⟩:=q;rw [hd] at h;simp only [fe,fm] at h;obtain ⟨rfl,rfl,rfl⟩:=h;obtain ⟨F,S,T,ht⟩:=zx3 hd;refine ⟨fun i=>match i with|0=>fr|i+1=>F i,fun i=>match i with|0=>s|i+1=>S i,fun i=>match i with|0=>t|i+1=>T i,rfl,rfl,ht.fN,ht.sN,by simp [ht.len],?_⟩;intro i o' ho'
    cases i with
    |zero =>
     simp only [gz,fe] at ho';subst ho';refine ⟨?_,?_,rfl⟩
     .show zcs P Γ call ops o fr s.inner=some (F 0,t);rw [ht.f0];exact hq
     .show S 0=s.outer t;exact ht.s0
    |succ i=>exact ht.step i o' (by simpa using ho')
theorem zna {s:CS} (h:CInv s):CInv s.inner:=⟨h.none,h.vers,fp _⟩
theorem zm2 {s t:CS} (hI:CInv s) (h:Can s.inner t):Can s (s.outer t):=by
 refine ⟨h.n,rfl,fun f hf=>zl0 hf,fun f hf=>zl0 hf,?_,h.ro,h.none,h.vers,?_⟩
 .intro f hn hl hw;exact h.same f hn hn fun hf=>hw (zn4 hf hl)
 .have hall:∀ (xs l:List Nat),(∀ f,f∈l->f<s.lim)->∀ f,f∈zui s.lim l xs->f<s.lim:=by
   intro xs
   induction xs with
   |nil=>intro l h f hf;exact h f hf
   |cons x xs ih=>intro l h f hf;exact ih _ (fun g hg=>(zow hg).elim (h g) (fun k=>k.2)) f hf
  exact fun h f hf=>hall _ _ h f hf
end
section
variable {P:gn} {Γ:Env} {call:zed} {G:List Nat}
structure Calm (P:gn) (Γ:Env) (G:List Nat) (call:zed) (l:List Oper) (logs:List Lg) (F:Nat->Fr) (S T:Nat->CS):Prop where
 step:∀ (i:Nat) (o:Oper),l[i]?=some o->zcs P Γ call l o (F i) (S i).inner=some (F (i+1),T i)/\S (i+1)=(S i).outer (T i)
 inv:∀ i,i<=l.length->CInv (S i)
 can:∀ i,i<l.length->Can (S i).inner (T i)
 oper:∀ (i:Nat) (o:Oper),l[i]?=some o->zm3 G (F 0).nt o=true
 edge:∀ (i:Nat) (o:Oper),l[i]?=some o->∀ e,e∈o.after.toList->l8 .any e=true->e.on<i
 touch:∀ (i j:Nat) (x y:Oper),i<j->l[i]?=some x->l[j]?=some y->i6 (nth 0 (zdn l []) j) i=true\/zwb l x y=false
 clash:∀ (i j:Nat),i<j->j<l.length->i6 (nth 0 (zdn l []) j) i=true \/
  ((∀ f,f∈(T i).wr->f ∉ (T j).rd/\f ∉ (T j).wr)/\(∀ f,f∈(T i).rd->f ∉ (T j).wr)/\(∀ f,(f∈(T j).rd\/f∈(T j).wr)->¬ ((S i).n<=f/\f<(T i).n)))
variable {l:List Oper} {logs:List Lg} {F:Nat->Fr} {S T:Nat->CS}
theorem Calm.next (c:Calm P Γ G call l logs F S T) {i:Nat} (hi:i<l.length):S (i+1)=(S i).outer (T i):=(c.step i _ (fk hi)).2
theorem Calm.n_next (c:Calm P Γ G call l logs F S T) {i:Nat} (hi:i<l.length):(S (i+1)).n=(T i).n:=by rw [c.next hi];rfl
theorem Calm.obj_next (c:Calm P Γ G call l logs F S T) {i:Nat} (hi:i<l.length):(S (i+1)).obj=(T i).obj:=by rw [c.next hi];rfl
theorem Calm.can' (c:Calm P Γ G call l logs F S T) {i:Nat} (hi:i<l.length):Can (S i) (S (i+1)):=by rw [c.next hi];exact zm2 (c.inv i (by omega)) (c.can i hi)
theorem Calm.cans (c:Calm P Γ G call l logs F S T):∀ {i j:Nat},i<=j->j<=l.length->Can (S i) (S j):=by
  intro i j hij
  induction j with
  | zero => intro _; have : i = 0 := by omega
            subst this;exact jp _
  |succ j ih =>
    intro hj;by_cases h:i=j+1
    . subst h;exact jp _
    . exact (ih (by omega) (by omega)).trans (c.can' (by omega))
theorem Calm.n_mono (c:Calm P Γ G call l logs F S T) {i j:Nat} (hij:i<=j) (hj:j<=l.length):(S i).n<=(S j).n:=(c.cans hij hj).n
theorem Calm.nt (c:Calm P Γ G call l logs F S T):∀ i,i<=l.length->(F i).nt=(F 0).nt:=by
 intro i
 induction i with
 |zero=>intro _;rfl
 |succ i ih =>
  intro hi;have h:=(c.step i _ (fk (show i<l.length by omega))).1;unfold zcs at h
  have hput:∀ v,(putC (F i) (l[i]'(by omega)).dst v).nt=(F i).nt:=by
   intro v
   cases (l[i]'(by omega)).dst with
   |none=>rfl
   |some t=>exact Fr.put_nt _ _ _
  cases hw:zc8 l (F i) (l[i]'(by omega)) with
  |false=>rw [hw] at h;simp only [cond_false,fe,fm] at h;rw [<- h.1,hput];exact ih (by omega)
  |true =>
   rw [hw] at h;simp only [cond_true] at h;split at h
   .simp only [fe,fm] at h;rw [<- h.1,hput];exact ih (by omega)
   .simp at h
theorem Calm.slot_next (c:Calm P Γ G call l logs F S T) (h5:(F 0).nt<=512) {i:Nat} {o:Oper} (ho:l[i]?=some o) {t:Nat} (ht:o.dst≠some t):(F (i+1)).get t=(F i).get t:=by
 have hi:=(ge.1 ho).1;have h:=(c.step i o ho).1;have h5':(F i).nt<=512:=by rw [c.nt i (by omega)];exact h5
 have hput:∀ v,(putC (F i) o.dst v).get t=(F i).get t:=by
  intro v
  cases hd:o.dst with
  |none=>rfl
  |some d =>
   refine Fr.get_put_other _ h5' ?_;rintro rfl;exact ht hd
 unfold zcs at h
 cases hw:zc8 l (F i) o with
 |false=>rw [hw] at h;simp only [cond_false,fe,fm] at h;rw [<- h.1];exact hput _
 |true =>
  rw [hw] at h;simp only [cond_true] at h;split at h
  .simp only [fe,fm] at h;rw [<- h.1];exact hput _
  .simp at h
theorem Calm.slot_keep (c:Calm P Γ G call l logs F S T) (h5:(F 0).nt<=512) {t:Nat}:∀ {p q:Nat},p<=q->q<=l.length->(∀ (k:Nat) (o:Oper),p<=k->k<q->l[k]?=some o->o.dst≠some t)->(F q).get t=(F p).get t:=by
  intro p q hpq
  induction q with
  | zero => intro _ _; have : p = 0 := by omega
            subst this;rfl
  |succ q ih =>
    intro hq hk;by_cases h:p=q+1
    . subst h;rfl
    . have ho:l[q]?=some l[q]:=fk (by omega);rw [c.slot_next h5 ho (hk q _ (by omega) (by omega) ho)];exact ih (by omega) (by omega) fun k o h1 h2 h3=>hk k o h1 (by omega) h3
def Sets (S T:Nat->CS) (i f:Nat):Prop:=f∈(T i).wr\/((S i).n<=f/\f<(S (i+1)).n)
theorem Calm.obj_same (c:Calm P Γ G call l logs F S T) {i:Nat} (hi:i<l.length) {f:Nat} (hf:¬ Sets S T i f):zaa (S (i+1)).obj f=zaa (S i).obj f:=by
 rw [c.obj_next hi];have hc:=c.can i hi;by_cases hn:f<(S i).n
 .exact hc.same f hn hn fun k=>hf (.inl k)
 .have h2:¬ f<(S (i+1)).n:=fun k=>hf (.inr ⟨by omega,k⟩);rw [c.n_next hi] at h2;rw [hc.none (zna (c.inv i (by omega))).none f (by omega),(c.inv i (by omega)).none f (by omega)]
theorem Calm.obj_keep (c:Calm P Γ G call l logs F S T) {f:Nat}:∀ {p q:Nat},p<=q->q<=l.length->(∀ k,p<=k->k<q->¬ Sets S T k f)->zaa (S q).obj f=zaa (S p).obj f:=by
  intro p q hpq
  induction q with
  | zero => intro _ _; have : p = 0 := by omega
            subst this;rfl
  |succ q ih =>
    intro hq hk;by_cases h:p=q+1
    . subst h;rfl
    . rw [c.obj_same (by omega) (hk q (by omega) (by omega))];exact ih (by omega) (by omega) fun k h1 h2=>hk k h1 (by omega)
def On (E:Array Bool) (i:Nat):Prop:=E.getD i false=true
structure DInv (V:Nat->Prop) (l:List Oper) (F:Nat->Fr) (S T:Nat->CS) (σ0:Sg) (w0:World) (a0:Act) (E:Array Bool) (σ:Sg) (a:Act) (w:World):Prop where
 ext:Ext σ0 V (S 0) w0 σ (S l.length) w
 inj:∀ f u b o z f' u' o' z',σ f u=some (b,o,z)->σ f' u'=some (b,o',z')->f=f'
 lt:∀ f u b o z,σ f u=some (b,o,z)->b<w.heap.size
 new:∀ f u,σ0 f u=none->σ f u≠none->∃ i,i<l.length/\On E i/\(S i).n<=u / 1024/\u / 1024<(S (i+1)).n/\f<(S (i+1)).n/\((S i).n<=f\/f∈(T i).rd\/f∈(T i).wr)
 slots0:∀ t,(∀ (i:Nat) (o:Oper),On E i->l[i]?=some o->o.dst≠some t)->VR σ ((F 0).get t) (a.tmps.getD t undef)
 slots:∀ (t i:Nat) (o:Oper),On E i->l[i]?=some o->o.dst=some t->(∀ (j:Nat) (oj:Oper),On E j->l[j]?=some oj->oj.dst=some t->j<=i)->VR σ ((F (i+1)).get t) (a.tmps.getD t undef)
 fam0:∀ f,V f->(∀ i,i<l.length->On E i->¬ Sets S T i f)->zjc σ w f (zaa (S 0).obj f)
 fam:∀ f i,V f->i<l.length->On E i->Sets S T i f->(∀ j,j<l.length->On E j->Sets S T j f->j<=i)->zjc σ w f (zaa (S (i+1)).obj f)
 asize:a.tmps.size=(F 0).nt
 defers:a.defers=a0.defers
 down:∀ (j:Nat) (o:Oper),On E j->l[j]?=some o->∀ e,e∈o.after.toList->l8 .any e=true->On E e.on
 size:E.size=l.length
end
section
variable {P:gn} {Γ:Env} {call:zed} {G:List Nat} {l:List Oper} {logs:List Lg} {F:Nat->Fr} {S T:Nat->CS} {V:Nat->Prop} {σ0 σ:Sg} {w0 w:World} {a0 a:Act} {E:Array Bool}
theorem zjc.ofNone {f:Nat}:zjc σ w f ze7:=⟨fun p hp=>by simp [ze7] at hp,fun _=>trivial,fun es he=>by simp [ze7] at he⟩
theorem ynw {E:Array Bool} {i j:Nat} (hi:i<E.size):On (E.setIfInBounds i true) j↔j=i\/On E j:=by
 unfold On;by_cases h:i=j
 .subst h;simp [hi]
 .rw [getD_set_ne false h];constructor
  .exact .inr
  .rintro (k|k)
   .exact absurd k.symm h
   .exact k
theorem z3h (c:Calm P Γ G call l logs F S T) (d:DInv V l F S T σ0 w0 a0 E σ a w) {i k:Nat} {o:Oper} (ho:l[i]?=some o) (hp:∀ e,e∈o.after.toList->l8 .any e=true->On E e.on) (hb:i6 (nth 0 (zdn l []) i) k=true):On E k :=
 zub (ops:=l) (E:=On E) (fun j o' ho' hj=>d.down j o' hj ho') i o ho hp k hb
theorem znp (c:Calm P Γ G call l logs F S T) (d:DInv V l F S T σ0 w0 a0 E σ a w) {i k:Nat} {ok:Oper} (hk:l[k]?=some ok) (hon:On E k) (hb:i6 (nth 0 (zdn l []) k) i=true):On E i :=
 zub (ops:=l) (E:=On E) (fun j o' ho' hj=>d.down j o' hj ho') k ok hk (d.down k ok hon hk) i hb
theorem z0v (c:Calm P Γ G call l logs F S T) (h5:(F 0).nt<=512) (d:DInv V l F S T σ0 w0 a0 E σ a w) {i:Nat} {o:Oper} (ho:l[i]?=some o) (hoff:¬ On E i) (hp:∀ e,e∈o.after.toList->l8 .any e=true->On E e.on)
    {t:Nat} (ht:t∈zff l o):VR σ ((F i).get t) (a.tmps.getD t undef):=by
  have hi:=(ge.1 ho).1
  have hlow:∀ (k:Nat) (x:Oper),k<i->l[k]?=some x->x.dst=some t->On E k:=by
    intro k x hk hx hd;rcases c.touch k i x o hk hx ho with hb|hb
    . exact z3h c d ho hp hb
    . exact absurd ht (zwa hb hd).1
  have hhigh:∀ (k:Nat) (x:Oper),On E k->l[k]?=some x->x.dst=some t->k<i:=by
    intro k x hon hx hd;rcases nu k i with h|h|h
    . exact h
    . subst h;exact absurd hon hoff
    . exfalso;rcases c.touch i k o x h ho hx with hb|hb
      . exact hoff (znp c d hx hon hb)
      . exact (z0k hb hd) ht
  rcases z1z (fun k=>∃ x,l[k]?=some x/\x.dst=some t) i with hnone|⟨m,hm,⟨x,hx,hd⟩,hmax⟩
  . rw [c.slot_keep h5 (ir i) (by omega) (fun k ok _ hk hok hd=>hnone k hk ⟨ok,hok,hd⟩)];refine d.slots0 t fun k ok hon hok hd=>?_;exact hnone k (hhigh k ok hon hok hd) ⟨ok,hok,hd⟩
  . rw [c.slot_keep h5 (show m+1<=i by omega) (by omega) (fun k ok hk1 hk2 hok hd2=>by
      have:=hmax k hk2 ⟨ok,hok,hd2⟩
      omega)]
    refine d.slots t m x (hlow m x hm hx hd) hx hd fun j oj hon hoj hdj=>?_;exact hmax j (hhigh j oj hon hoj hdj) ⟨oj,hoj,hdj⟩
theorem zz0 (c:Calm P Γ G call l logs F S T) (d:DInv V l F S T σ0 w0 a0 E σ a w) {i:Nat} {o:Oper} (ho:l[i]?=some o) (hoff:¬ On E i) (hp:∀ e,e∈o.after.toList->l8 .any e=true->On E e.on)
    {f:Nat} (hf:f∈(T i).rd\/f∈(T i).wr) (hlt:f<(S i).n):(∀ k,k<i->Sets S T k f->On E k)/\(∀ k,k<l.length->On E k->Sets S T k f->k<i):=by
  have hi:=(ge.1 ho).1;constructor
  . intro k hk hs;rcases c.clash k i hk hi with hb|⟨h1,h2,h3⟩
    . exact z3h c d ho hp hb
    . exfalso;rcases hs with hs|hs
      . rcases hf with hf|hf
        . exact (h1 f hs).1 hf
        . exact (h1 f hs).2 hf
      . rw [c.n_next (by omega)] at hs;exact h3 f hf hs
  . intro k hkl hon hs;rcases nu k i with h|h|h
    . exact h
    . subst h;exact absurd hon hoff
    . exfalso;have hk:l[k]?=some l[k]:=fk hkl;rcases c.clash i k h hkl with hb|⟨h1,h2,h3⟩
      . exact hoff (znp c d hk hon hb)
      . rcases hs with hs|hs
        . rcases hf with hf|hf
          . exact h2 f hf hs
          . exact (h1 f hf).2 hs
        . have:=c.n_mono (show i<=k by omega) (by omega);omega
theorem yoc (c:Calm P Γ G call l logs F S T) (d:DInv V l F S T σ0 w0 a0 E σ a w) {i:Nat} {o:Oper} (ho:l[i]?=some o) (hoff:¬ On E i) (hp:∀ e,e∈o.after.toList->l8 .any e=true->On E e.on)
    {f:Nat} (hV:V f) (hf:f∈(T i).rd\/f∈(T i).wr) (hlt:f<(S i).n):zjc σ w f (zaa (S i).obj f):=by
  have hi:=(ge.1 ho).1;obtain ⟨h1,h2⟩:=zz0 c d ho hoff hp hf hlt;rcases z1z (fun k=>Sets S T k f) i with hnone|⟨m,hm,hs,hmax⟩
  . rw [c.obj_keep (ir i) (by omega) (fun k _ hk=>hnone k hk)];exact d.fam0 f hV fun k hk hon hs=>hnone k (h2 k hk hon hs) hs
  . rw [c.obj_keep (show m+1<=i by omega) (by omega) (fun k hk1 hk2 hs2=>by have:=hmax k hk2 hs2;omega)];exact d.fam f m hV (by omega) (h1 m hm hs) hs fun j hj hon hs2=>hmax j (h2 j hj hon hs2) hs2
def Vi (V:Nat->Prop) (S T:Nat->CS) (i:Nat):Nat->Prop:=fun f=>V f/\(f∈(T i).rd\/f∈(T i).wr\/(S i).n<=f)
theorem yf3 (c:Calm P Γ G call l logs F S T) (d:DInv V l F S T σ0 w0 a0 E σ a w) {i:Nat} {o:Oper} (ho:l[i]?=some o) (hoff:¬ On E i) (hp:∀ e,e∈o.after.toList->l8 .any e=true->On E e.on) :
    Rel σ (Vi V S T i) (S i).inner w:=by
  have hi:=(ge.1 ho).1;have hI:=c.inv i (by omega);refine ⟨d.inj,d.lt,?_,hI.none,hI.vers⟩;intro f hf;show zjc σ w f (zaa (S i).obj f);by_cases hlt:f<(S i).n
  . refine yoc c d ho hoff hp hf.1 ?_ hlt;rcases hf.2 with h|h|h
    . exact .inl h
    . exact .inr h
    . omega
  . rw [hI.none f (by omega)];exact zjc.ofNone
theorem z9x (c:Calm P Γ G call l logs F S T) (hF:ze8 σ0 (S 0).n (S l.length).n) (d:DInv V l F S T σ0 w0 a0 E σ a w) {i:Nat} (hi:i<l.length) (hoff:¬ On E i):ze8 σ (S i).n (T i).n:=by
 rw [<- c.n_next hi];intro f u hf;have h0:=c.n_mono (ir i) (by omega);have h1:=c.n_mono (show i+1<=l.length by omega) (fp _)
 cases hs:σ f u with
 |none=>rfl
 |some p =>
  exfalso;have hn:σ0 f u=none:=hF f u (by omega);obtain ⟨k,hk,hon,h2,h3,h4,h5⟩:=d.new f u hn (by rw [hs];simp);have hkk:l[k]?=some l[k]:=fk hk;rcases nu k i with h|h|h
  .have:=c.n_mono (show k+1<=i by omega) (by omega);omega
  .subst h;exact hoff hon
  .have:=c.n_mono (show i+1<=k by omega) (by omega);rcases hf with hf|hf
   .rcases c.clash i k h hk with hb|⟨q1,q2,q3⟩
    .exact hoff (znp c d hkk hon hb)
    .rw [<- c.n_next hi] at q3;rcases h5 with h5|h5
     .omega
     .exact q3 f h5 hf
   .omega
set_option maxHeartbeats 1000000 in
theorem yen (c:Calm P Γ G call l logs F S T) (h5:(F 0).nt<=512) (hF:ze8 σ0 (S 0).n (S l.length).n) (hw0:∀ i,i<l.length->∀ f,f∈(T i).wr->f<(S i).n) (d:DInv V l F S T σ0 w0 a0 E σ a w)
    {i:Nat} {o:Oper} (ho:l[i]?=some o) (hoff:¬ On E i) (hp:∀ e,e∈o.after.toList->l8 .any e=true->On E e.on)
    {σ':Sg} {w':World} {v v':Value} (hput:F (i+1)=putC (F i) o.dst v) (hv:VR σ' v v') (hr':Rel σ' (Vi V S T i) (T i) w') (he':Ext σ (Vi V S T i) (S i).inner w σ' (T i) w') :
    DInv V l F S T σ0 w0 a0 (E.setIfInBounds i true) σ' (a.put o.dst v') w':=by
  have hi:=(ge.1 ho).1;have hiE:i<E.size:=by rw [d.size];exact hi
  have hI:=c.inv i (by omega);have hI0:=c.inv 0 (by omega);have hS0i:=c.n_mono (ir i) (by omega);have hSiN:=c.n_mono (show i+1<=l.length by omega) (fp _);have hTn:=c.n_next hi;have hobj:=c.obj_next hi;have hcan0:=c.cans (ir i) (by omega)
  have hro:∀ f u p,σ0 f u=some p->(zaa (S i).obj f).ro=(zaa (S 0).obj f).ro:=by
    intro f u p hs;by_cases hlt:f<(S 0).n
    . exact hcan0.ro f hlt
    . by_cases h2:f<(S l.length).n
      . rw [hF f u (.inl ⟨by omega,h2⟩)] at hs;simp at hs
      . rw [hI0.none f (by omega),hI.none f (by have:=c.n_mono (show i<=l.length by omega) (fp _);omega)]
  have hon:∀ j,On (E.setIfInBounds i true) j↔j=i\/On E j:=fun j=>ynw hiE
  -- setters of a family that operation i sets stand before it
  have hset:∀ f,Sets S T i f->∀ j,j<l.length->On E j->Sets S T j f->j<=i:=by
    intro f hs j hj honj hsj;rcases nu j i with h|h|h
    . omega
    . omega
    . exfalso;have hjj:l[j]?=some l[j]:=fk hj;have hij:=c.n_mono (show i+1<=j by omega) (by omega);rcases c.clash i j h hj with hb|⟨q1,q2,q3⟩
      . exact hoff (znp c d hjj honj hb)
      . rw [<- hTn] at q3;rcases hs with hs|hs
        . rcases hsj with hsj|hsj
          . exact (q1 f hs).2 hsj
          . have:=hw0 i hi f hs;have:=c.n_mono (show i<=j by omega) (by omega);omega
        . rcases hsj with hsj|hsj
          . exact q3 f (.inr hsj) hs
          . omega
  -- a family that operation i does not set
  have hunset:∀ f x,V f->¬ Sets S T i f->zjc σ w f x->(f∈(T i).rd\/f∈(T i).wr->f<(S i).n->x=zaa (S i).obj f)->zjc σ' w' f x:=by
    intro f x hVf hns hx hsame;by_cases ht:(f∈(T i).rd\/f∈(T i).wr)/\f<(S i).n
    . have hVi:Vi V S T i f:=⟨hVf,ht.1.elim (fun h=>.inl h) (fun h=>.inr (.inl h))⟩;have:=hr'.fam f hVi;rw [<- hobj,c.obj_same hi hns,<- hsame ht.1 ht.2] at this;exact this
    . refine hx.move he'.le ?_ ?_
      . intro u _
        cases h1:σ f u with
        |some p=>exact he'.le f u p h1
        |none =>
          cases h2:σ' f u with
          |none=>rfl
          |some p =>
            exfalso;obtain ⟨g1,g2,g3,g4⟩:=he'.new f u h1 (by rw [h2];simp);have g3':f<(T i).n:=g3;have hge:¬ (S i).n<=f:=fun k=>hns (.inr ⟨k,by rw [hTn];exact g3'⟩);rcases g4 with g4|g4
            . exact hge g4
            . rcases g4.2 with g|g|g
              . exact ht ⟨.inl g,by omega⟩
              . exact ht ⟨.inr g,by omega⟩
              . exact hge g
      . intro u b oo z hs;refine he'.frame b (d.lt _ _ _ _ _ hs) ?_;intro f' u' o' z' hs';have hff:=d.inj _ _ _ _ _ _ _ _ _ hs' hs;subst hff;by_cases hge:(S i).n<=f'
        . right;show (zaa (S i).obj f').ro=true;rw [hI.none f' hge];rfl
        . left;intro hVi;rcases hVi.2 with g|g|g
          . exact ht ⟨.inl g,by omega⟩
          . exact ht ⟨.inr g,by omega⟩
          . exact hge g
  refine ⟨⟨?_,?_,?_,?_,?_,d.ext.st.trans he'.st⟩,hr'.inj,hr'.lt,?_,?_,?_,?_,?_,?_,?_,?_,?_⟩
  . exact fun f u p hs=>he'.le f u p (d.ext.le f u p hs)
  . intro f u h0 h2
    cases h1:σ f u with
    |some p=>exact d.ext.new f u h0 (by rw [h1];simp)
    |none =>
      obtain ⟨g1,g2,g3,g4⟩:=he'.new f u h1 h2;have g1':(S i).n<=u / 1024:=g1;refine ⟨by omega,by omega,by omega,?_⟩;rcases g4 with g4|g4
      . have g4':(S i).n<=f:=g4;exact .inl (by omega)
      . exact .inr g4.1
  . intro f u b oo z h0 h2 hb
    cases h1:σ f u with
    |some p =>
      have:=he'.le f u p h1;rw [h2] at this;cases this;exact d.ext.old f u b oo z h0 h1 hb
    |none =>
      obtain ⟨u0,o0,z0,hs,hVi,hr0⟩:=he'.old f u b oo z h1 h2 (gr hb d.ext.size)
      cases h3:σ0 f u0 with
      |none=>exact d.ext.old f u0 b o0 z0 h3 hs hb
      |some p =>
        have:=d.ext.le f u0 p h3;rw [hs] at this;cases this;exact ⟨u0,o0,z0,h3,hVi.1,by rw [<- hro f u0 _ h3];exact hr0⟩
  . exact jv d.ext.size he'.size
  . intro b hb hq;rw [he'.frame b (gr hb d.ext.size) ?_,d.ext.frame b hb hq];intro f u oo z h1
    cases h0:σ0 f u with
    |some p =>
      have:=d.ext.le f u p h0;rw [h1] at this;cases this;rcases hq f u oo z h0 with hv|hr0
      . exact .inl fun k=>hv k.1
      . exact .inr (by show (zaa (S i).obj f).ro=true;rw [hro f u _ h0];exact hr0)
    |none =>
      obtain ⟨u0,o0,z0,hs,hVf,hr0⟩:=d.ext.old f u b oo z h0 h1 hb;rcases hq f u0 o0 z0 hs with hv|hr2
      . exact absurd hVf hv
      . rw [hr0] at hr2;simp at hr2
  . intro f u h0 h2
    cases h1:σ f u with
    |some p =>
      obtain ⟨k,hk,honk,rest⟩:=d.new f u h0 (by rw [h1];simp);exact ⟨k,hk,(hon k).2 (.inr honk),rest⟩
    |none =>
      obtain ⟨g1,g2,g3,g4⟩:=he'.new f u h1 h2;have g1':(S i).n<=u / 1024:=g1;refine ⟨i,hi,(hon i).2 (.inl rfl),g1',by omega,by omega,?_⟩;rcases g4 with g4|g4
      . exact .inl g4
      . rcases g4.2 with g|g|g
        . exact .inr (.inl g)
        . exact .inr (.inr g)
        . exact .inl g
  . intro t hno;have hdt:o.dst≠some t:=hno i o ((hon i).2 (.inl rfl)) ho
    have hsame:(a.put o.dst v').tmps.getD t undef=a.tmps.getD t undef:=by
      cases hd:o.dst with
      |none=>rfl
      |some q=>exact Act.getD_put_other v' (by rintro rfl;exact hdt hd)
    rw [hsame];exact (d.slots0 t fun j oj honj hoj=>hno j oj ((hon j).2 (.inr honj)) hoj).mono he'.le
  . intro t j oj honj hoj hdj hmax;rcases (hon j).1 honj with rfl|honj'
    . -- the operation itself
      rw [ho] at hoj;cases hoj;have hoper:=c.oper _ _ ho;unfold zm3 at hoper;rw [fj,hdj] at hoper;have hlt:t<(F 0).nt:=zad.1 hoper.2;rw [hput,hdj];have e1:(putC (F j) (some t) v).get t=v:=Fr.get_put_same v (by rw [c.nt j (by omega)];exact hlt) (by rw [c.nt j (by omega)];exact h5);rw [e1,Act.getD_put_same v' (by rw [d.asize];exact hlt)];exact hv
    . -- an earlier one: operation i does not set this slot
      have hdt:o.dst≠some t:=by
        intro hd;have hij:=hmax i o ((hon i).2 (.inl rfl)) ho hd;have hne:i≠j:=by rintro rfl;exact hoff honj'
        rcases c.touch i j o oj (by omega) ho hoj with hb|hb
        . exact hoff (znp c d hoj honj' hb)
        . exact (zwa hb hd).2 hdj
      have hsame:(a.put o.dst v').tmps.getD t undef=a.tmps.getD t undef:=by
        cases hd:o.dst with
        |none=>rfl
        |some q=>exact Act.getD_put_other v' (by rintro rfl;exact hdt hd)
      rw [hsame];exact (d.slots t j oj honj' hoj hdj fun k ok honk hok hdk=>hmax k ok ((hon k).2 (.inr honk)) hok hdk).mono he'.le
  . intro f hVf hno;have hns:¬ Sets S T i f:=hno i hi ((hon i).2 (.inl rfl));refine hunset f _ hVf hns (d.fam0 f hVf fun k hk honk=>hno k hk ((hon k).2 (.inr honk))) ?_;intro ht hlt;obtain ⟨h1,h2⟩:=zz0 c d ho hoff hp ht hlt;exact (c.obj_keep (ir i) (by omega) fun k _ hk hs=>hno k (by omega) ((hon k).2 (.inr (h1 k hk hs))) hs).symm
  . intro f j hVf hj honj hsj hmax;by_cases hsi:Sets S T i f
    . have h1:=hmax i hi ((hon i).2 (.inl rfl)) hsi
      have hji:j=i:=by
        rcases (hon j).1 honj with h|h
        . exact h
        . have:=hset f hsi j hj h hsj;omega
      subst hji;rw [hobj];refine hr'.fam f ⟨hVf,?_⟩;rcases hsi with h|h
      . exact .inr (.inl h)
      . exact .inr (.inr h.1)
    . have honj':On E j:=by
        rcases (hon j).1 honj with rfl|h
        . exact absurd hsj hsi
        . exact h
      refine hunset f _ hVf hsi (d.fam f j hVf hj honj' hsj fun k hk honk hsk=>hmax k hk ((hon k).2 (.inr honk)) hsk) ?_;intro ht hlt;obtain ⟨h1,h2⟩:=zz0 c d ho hoff hp ht hlt;have hji:=h2 j hj honj' hsj
      exact (c.obj_keep (show j+1<=i by omega) (by omega) fun k hk1 hk2 hs=>by
        have:=hmax k (by omega) ((hon k).2 (.inr (h1 k hk2 hs))) hs
        omega).symm
  . rw [Act.put_size];exact d.asize
  . rw [Act.put_defers'];exact d.defers
  . intro j oj honj hoj e he hb;rcases (hon j).1 honj with rfl|honj'
    . rw [ho] at hoj;cases hoj;exact (hon _).2 (.inr (hp e he hb))
    . exact (hon _).2 (.inr (d.down j oj honj' hoj e he hb))
  . simp [d.size]
end
section
variable {P:gn} {Γ:Env} {call:zed} {G:List Nat}
theorem z21 {α:Type} {p q:α->Bool}:∀ {l:List α},(∀ x,x∈l->q x=true->p x=true)->(∃ x,x∈l/\p x=true/\q x=false)->l.countP q<l.countP p
 |[],_,h=>by obtain ⟨x,hx,_⟩:=h;simp at hx
 |y :: l,h,⟨x,hx,hp,hq⟩=>by
  have hle:∀ (l:List α),(∀ x,x∈l->q x=true->p x=true)->l.countP q<=l.countP p:=by
   intro l
   induction l with
   |nil=>intro _;simp
   |cons z l ih =>
    intro h;have h1:=ih fun x hx=>h x (by simp [hx]);have h2:=h z (by simp);rw [p9,p9]
    cases hqz:q z with
    |false=>simp;omega
    |true=>rw [h2 hqz];simp;omega
  rw [p9,p9];rcases kj.1 hx with rfl|hx
  .rw [hp,hq];have:=hle l fun z hz=>h z (by simp [hz]);simp;omega
  .have h1:=z21 (fun z hz=>h z (by simp [hz])) ⟨x,hx,hp,hq⟩;have h2:=h y (by simp)
   cases hqy:q y with
   |false=>simp;omega
   |true=>rw [h2 hqy];simp;omega
def cnt (l:List Oper) (E:Array Bool):Nat:=(List.range l.length).countP fun i=>!E.getD i false
theorem ymd {l:List Oper} {E:Array Bool} {i:Nat} (hs:E.size=l.length) (hi:i<l.length) (hoff:¬ On E i):cnt l (E.setIfInBounds i true)<cnt l E:=by
 unfold cnt;refine z21 ?_ ⟨i,by simpa using hi,?_,?_⟩
 .intro x _ hx;by_cases h:i=x
  .subst h;simp [hs,hi] at hx
  .rw [getD_set_ne false h] at hx;exact hx
 .unfold On at hoff;simpa using hoff
 .simp [hs,hi]
theorem yml {l:List Oper} {fr fr':Fr} {s s':CS} {logs:List Lg} {F:Nat->Fr} {S T:Nat->CS} (hc:zie call) (ht:you P Γ call l l fr s logs fr' s' F S T) (hI:CInv s) (hoper:l.all (zm3 G fr.nt)=true) (htidy:tidy l=true) (hcalm:calm s.n l logs=true) :
    Calm P Γ G call l logs F S T:=by
  have hinv:∀ i,i<=l.length->CInv (S i):=by
    intro i
    induction i with
    |zero=>intro _;rw [ht.s0];exact hI
    |succ i ih =>
      intro hi;obtain ⟨h1,h2,_⟩:=ht.step i _ (fk (show i<l.length by omega));have h3:=ih (by omega);rw [h2];exact h3.next (zm2 h3 (zmo hc (zna h3) h1))
  have hcan:∀ i,i<l.length->Can (S i).inner (T i):=fun i hi=>zmo hc (zna (hinv i (by omega))) (ht.step i _ (fk hi)).1
  have hmono:∀ i j,i<=j->j<=l.length->(S i).n<=(S j).n:=by
    intro i j hij
    induction j with
    | zero => intro _; have : i = 0 := by omega
              subst this;exact fp _
    |succ j ih =>
      intro hj;by_cases h:i=j+1
      . subst h;exact fp _
      . refine jv (ih (by omega) (by omega)) ?_;rw [(ht.step j _ (fk (show j<l.length by omega))).2.1];exact (hcan j (by omega)).n
  unfold tidy at htidy;rw [fj] at htidy;refine ⟨fun i o ho=>⟨(ht.step i o ho).1,(ht.step i o ho).2.1⟩,hinv,hcan,fun i o ho=>?_,fun i o ho e he hb=>?_,fun i j x y hij hx hy=>?_,fun i j hij hj=>?_⟩
  . rw [ht.f0];exact ib.1 hoper o (jl ho)
  . have:=zx2 htidy.1 i o ho e he hb;omega
  . exact zf7 htidy.2 i j x y hij (ir _) (by simpa using hx) (by simpa using hy)
  . have hli:=(ht.step i _ (fk (show i<l.length by omega))).2.2;have hlj:=(ht.step j _ (fk hj)).2.2;unfold calm at hcalm;rw [cond_eq_ite] at hcalm;split at hcalm
    . rename_i hq;right;have hqi:=ib.1 hq _ (jl hli);have hqj:=ib.1 hq _ (jl hlj);simp only [fj,List.isEmpty_iff] at hqi hqj;refine ⟨fun f hf=>by rw [hqi.1] at hf;simp at hf,fun f _ hf=>by rw [hqj.1] at hf;simp at hf,?_⟩;rintro f (hf|hf) hr
      . have:=zad.1 (ib.1 hqj.2 f hf);have h0:=hmono 0 i (ir _) (by omega);rw [ht.s0] at h0;omega
      . rw [hqj.1] at hf;simp at hf
    . rcases zf7 hcalm i j _ _ hij (ir _) (by simpa using hli) (by simpa using hlj) with h|h
      . exact .inl h
      . exact .inr (z5b h)
theorem zjc.world {σ:Sg} {w w':World} {f:Nat} {x:Fam} (h:zjc σ w f x) (hw:w'.heap=w.heap):zjc σ w' f x :=
 h.move (fun _ _ _ k=>k) (fun _ _=>rfl) (fun _ b _ _ _=>by rw [hw])
theorem Rel.world {σ:Sg} {V:Nat->Prop} {s:CS} {w w':World} (h:Rel σ V s w) (hw:w'.heap=w.heap):Rel σ V s w' :=
 ⟨h.inj,fun f u b o z k=>by rw [hw];exact h.lt f u b o z k,fun f hf=>(h.fam f hf).world hw,h.none,h.vers⟩
set_option maxHeartbeats 1000000 in
theorem yl5 {r:Option Nat} {kd:Nat} (hm:P.follows .mixedOrders=true) (hE:zeb P Γ) (hC:zr5 P G call) (hc:zie call) {σ:Sg} {V:Nat->Prop} {s s':CS} {w:World} {a:Act} {fr fr':Fr} {id:Nat} {ops:Array Oper} {logs:List Lg} {Q:Exit->Act->World->Prop}
    (hr:Rel σ V s w) (hV:zcm V s') (hF:ze8 σ s.n s'.n) (hI:CInv s) (hG:zj0 G σ) (hfr:FrR σ fr a) (hoper:ops.toList.all (zm3 G fr.nt)=true) (htidy:tidy ops.toList=true)
    (h:drawC P Γ call ops.toList ops.toList fr s=some (logs,fr',s')) (hcalm:calm s.n ops.toList logs=true)
    (hQ:∀ σ' a' w',FrR σ' fr' a'->a'.defers=a.defers->Rel σ' V s' w'->Ext σ V s w σ' s' w'->Q .normal a' w'):(Code.region id ops true).wpIn (zlm r) kd P Q a w:=by
  obtain ⟨F,S,T,ht⟩:=zx3 h;have c:=yml hc ht hI hoper htidy hcalm;have h5:(F 0).nt<=512:=by rw [ht.f0];exact hfr.small
  have hF0:ze8 σ (S 0).n (S ops.toList.length).n:=by rw [ht.s0,ht.sN];exact hF
  have hwlt:∀ i,i<ops.toList.length->∀ f,f∈(T i).wr->f<(S i).n:=by
    intro i hi f hf;have:=(c.can i hi).wlt (fun g hg=>by simp [CS.inner] at hg) f hf;rw [(c.can i hi).lim] at this;exact this
  have hlim:∀ i,i<=ops.toList.length->(S i).lim=s.lim:=by
    intro i
    induction i with
    |zero=>intro _;rw [ht.s0]
    |succ i ih=>intro hi;rw [c.next (by omega)];exact ih (by omega)
  -- what an operation touches is covered
  have hVt:∀ i,i<ops.toList.length->∀ f,(f∈(T i).rd\/f∈(T i).wr\/(S i).n<=f)->V f:=by
    intro i hi f hf;have hcs:=c.cans (show i+1<=ops.toList.length by omega) (fp _);refine hV f ?_;rw [<- ht.sN];by_cases hl:f<s.lim
    . rcases hf with hf|hf|hf
      . exact .inl (hcs.rd f (by rw [c.next hi];exact zn4 hf (by rw [hlim i (by omega)];exact hl)))
      . exact .inr (.inl (hcs.wr f (by rw [c.next hi];exact zn4 hf (by rw [hlim i (by omega)];exact hl))))
      . have h1:=c.n_mono (ir i) (by omega);rw [ht.s0] at h1;have:=hI.lim;omega
    . exact .inr (.inr (by rw [hlim _ (fp _)];omega))
  refine wpIn_region_any hm ?_
  -- the end: all has been done
  have hend:∀ (E:Array Bool) (σ1:Sg) (a1:Act) (w1:World),DInv V ops.toList F S T σ w a E σ1 a1 w1->(∀ i,i<ops.toList.length->On E i)->Q .normal a1 w1:=by
    intro E σ1 a1 w1 d hall;refine hQ σ1 a1 w1 ⟨?_,by rw [<- ht.fN,c.nt _ (fp _)];exact h5,fun t=>?_⟩ d.defers ⟨d.inj,d.lt,fun f hf=>?_,?_,?_⟩ ?_
    . rw [d.asize,<- ht.fN,c.nt _ (fp _)]
    . rw [<- ht.fN];rcases z1z (fun k=>∃ x,ops.toList[k]?=some x/\x.dst=some t) ops.toList.length with hnone|⟨m,hm1,⟨x,hx,hd⟩,hmax⟩
      . rw [c.slot_keep h5 (ir _) (fp _) (fun k ok _ hk hok hd=>hnone k hk ⟨ok,hok,hd⟩)];exact d.slots0 t fun i o _ ho hd=>hnone i (ge.1 ho).1 ⟨o,ho,hd⟩
      . rw [c.slot_keep h5 (show m+1<=_ by omega) (fp _) (fun k ok hk1 hk2 hok hd2=>by have:=hmax k hk2 ⟨ok,hok,hd2⟩;omega)];exact d.slots t m x (hall m hm1) hx hd fun j oj _ hoj hdj=>hmax j (ge.1 hoj).1 ⟨oj,hoj,hdj⟩
    . rw [<- ht.sN];rcases z1z (fun k=>Sets S T k f) ops.toList.length with hnone|⟨m,hm1,hs,hmax⟩
      . rw [c.obj_keep (ir _) (fp _) fun k _ hk=>hnone k hk];exact d.fam0 f hf fun i hi _=>hnone i hi
      . rw [c.obj_keep (show m+1<=_ by omega) (fp _) fun k hk1 hk2 hs2=>by have:=hmax k hk2 hs2;omega];exact d.fam f m hf hm1 (hall m hm1) hs fun j hj _ hsj=>hmax j hj hsj
    . rw [<- ht.sN];exact (c.inv _ (fp _)).none
    . rw [<- ht.sN];exact (c.inv _ (fp _)).vers
    . have:=d.ext;rw [ht.s0,ht.sN] at this;exact this
  have key:∀ (fuel:Nat) (E:Array Bool) (σ1:Sg) (a1:Act) (w1:World),DInv V ops.toList F S T σ w a E σ1 a1 w1->cnt ops.toList E<=fuel->wpAnyIn (zlm r) kd P .any ops Q fuel E a1 w1:=by
    intro fuel
    -- where nothing is ready, all has been done
    have hready:∀ (E:Array Bool) (σ1:Sg) (a1:Act) (w1:World),DInv V ops.toList F S T σ w a E σ1 a1 w1->Region.ready .any ops E=[]->∀ i,i<ops.toList.length->On E i:=by
      intro E σ1 a1 w1 d hnil i
      induction i using Nat.strongRecOn with
      |_ i ih =>
        intro hi;refine js fun hoff=>?_;have ho:ops.toList[i]?=some ops.toList[i]:=fk hi
        have:i∈Region.ready .any ops E:=by
          rw [mem_ready];refine ⟨?_,ops.toList[i],by rw [<- ki];exact ho,fun e he hb=>?_⟩
          . unfold On at hoff;have hsz:i<E.size:=by rw [d.size];exact hi
            simp only [kp,kw hsz,Option.getD_some] at hoff ⊢;simpa using hoff
          . have:=c.edge i _ ho e (by simpa using he) hb;exact ih e.on this (by omega)
        rw [hnil] at this;simp at this
    induction fuel with
    |zero =>
      intro E σ1 a1 w1 d hcnt
      have hall:∀ i,i<ops.toList.length->On E i:=by
        intro i hi;refine js fun hoff=>?_
        have:0<cnt ops.toList E:=by
          unfold cnt;rw [List.countP_pos_iff];exact ⟨i,by simpa using hi,by unfold On at hoff;simpa using hoff⟩
        omega
      refine ⟨?_,hend E σ1 a1 w1 d hall⟩;rw [List.eq_nil_iff_forall_not_mem];intro i hi;obtain ⟨h1,o,ho,_⟩:=mem_ready.1 hi;have hlt:i<ops.toList.length:=by rw [jr];exact (Array.getElem?_eq_some_iff.1 ho).1
      have:=hall i hlt;unfold On at this;have hsz:i<E.size:=by rw [d.size];exact hlt
      simp only [kp,kw hsz,Option.getD_some] at h1 this;rw [this] at h1
      simp at h1
    |succ fuel ih =>
      intro E σ1 a1 w1 d hcnt;refine ⟨fun hnil=>hend E σ1 a1 w1 d (hready E σ1 a1 w1 d hnil),fun i hi=>?_⟩;obtain ⟨h1,o,ho,hp⟩:=mem_ready.1 hi;have ho':ops.toList[i]?=some o:=by rw [ki];exact ho
      have hlt:=(ge.1 ho').1
      have hoff:¬ On E i:=by
        unfold On;have hsz:i<E.size:=by rw [d.size];exact hlt
        simp only [kp,kw hsz,Option.getD_some] at h1 ⊢;rw [h1];simp
      have hp':∀ e,e∈o.after.toList->l8 .any e=true->On E e.on:=fun e he hb=>hp e (by simpa using he) hb;obtain ⟨hstep,hnext⟩:=c.step i o ho';have hoperi:=c.oper i o ho';unfold zm3 at hoperi;rw [fj] at hoperi;have hrel:=yf3 c d ho' hoff hp'
      have hcov:zcm (Vi V S T i) (T i):=by
        intro f hf
        have hf':f∈(T i).rd\/f∈(T i).wr\/(S i).n<=f:=by
          rcases hf with hf|hf|hf
          . exact .inl hf
          . exact .inr (.inl hf)
          . rw [(c.can i hlt).lim] at hf;exact .inr (.inr hf)
        exact ⟨hVt i hlt f hf',hf'⟩
      have hfresh:ze8 σ1 (S i).inner.n (T i).n:=z9x c hF0 d hlt hoff;have hGi:zj0 G σ1:=hG.up d.ext.le;unfold wpOpIn;rw [ho];simp only;refine ya8 (fr:=F i) hE hC hrel hcov hfresh (zna (c.inv i (by omega))) hGi hoperi.1 ?_ ?_ hstep ?_
      . intro t htm;refine z0v c h5 d ho' hoff hp' ?_;unfold zff;refine List.mem_append_left _ (List.mem_filterMap.2 ⟨.tmp t,htm,rfl⟩)
      . intro g b dd hg hd;refine ⟨?_,z0v c h5 d ho' hoff hp' ?_⟩
        . unfold zo0 at hd
          cases hog:ops.toList[g]? with
          |none=>rw [hog] at hd;simp at hd
          |some og =>
            rw [hog] at hd;simp only at hd;have:=c.oper g og hog;unfold zm3 at this;rw [fj,hd] at this;rw [d.asize];exact zad.1 this.2
        . unfold zff;refine List.mem_append_right _ ?_;rw [hg];simp only;rw [hd];simp
      . intro σ' v v' w' hput hv hr' he';refine ih _ σ' _ w' (yen c h5 hF0 hwlt d ho' hoff hp' hput hv hr' he') ?_;have:=ymd d.size hlt hoff;omega
  refine key ops.size (qk ops.size false) σ a _ ?_ ?_
  . refine ⟨?_,hr.inj,fun f u b o z k=>hr.lt f u b o z k,fun f u h0 h1=>absurd h0 h1,fun t _=>by rw [ht.f0];exact hfr.val t,?_,?_,?_,by rw [ht.f0];exact hfr.size.symm,rfl,?_,by simp⟩
    . refine ⟨fun _ _ _ k=>k,fun _ _ k1 k2=>absurd k1 k2,fun _ _ _ _ _ k1 k2=>by rw [k1] at k2;simp at k2,fp _,fun _ _ _=>rfl,⟨rfl,rfl,rfl⟩⟩
    . intro t i o hon;unfold On at hon;simp only [kp,n5] at hon;split at hon<;>simp at hon
    . intro f hf _;rw [ht.s0];exact (hr.fam f hf).world rfl
    . intro f i _ _ hon;unfold On at hon;simp only [kp,n5] at hon;split at hon<;>simp at hon
    . intro j o hon;unfold On at hon;simp only [kp,n5] at hon;split at hon<;>simp at hon
  . unfold cnt;refine jv List.countP_le_length ?_;simp
end
section
variable {P:gn} {Γ:Env} {G:List Nat}
theorem ztx (fr:Fr) (d:Option Tmp) (v:Value):(putC fr d v).nt=fr.nt:=by
 cases d with
 |none=>rfl
 |some t=>exact Fr.put_nt _ _ _
theorem z5x {call:zed} {ops:List Oper} {o:Oper} {fr fr':Fr} {s s':CS} (h:zcs P Γ call ops o fr s=some (fr',s')):fr'.nt=fr.nt:=by
 unfold zcs at h
 cases hw:zc8 ops fr o with
 |false=>rw [hw] at h;simp only [cond_false,fe,fm] at h;rw [<- h.1,ztx]
 |true =>
  rw [hw] at h;simp only [cond_true] at h;split at h
  .simp only [fe,fm] at h;rw [<- h.1,ztx]
  .simp at h
theorem yb3 {call:zed} {ops:List Oper}:∀ {l:List Oper} {fr fr':Fr} {s s':CS},runC P Γ call ops l fr s=some (fr',s')->fr'.nt=fr.nt
 |[],fr,fr',s,s',h=>by simp only [runC,fe,fm] at h;rw [<- h.1]
 |o :: l,fr,fr',s,s',h=>by
  simp only [runC] at h;split at h
  .rename_i h1;rw [yb3 h,z5x h1]
  .simp at h
theorem z78 {call:zed} {ops:List Oper}:∀ {l:List Oper} {fr fr':Fr} {s s':CS} {logs:List Lg},drawC P Γ call ops l fr s=some (logs,fr',s')->fr'.nt=fr.nt
 |[],fr,fr',s,s',logs,h=>by simp only [drawC,fe,fm] at h;rw [<- h.2.1]
 |o :: l,fr,fr',s,s',logs,h=>by
  simp only [drawC] at h;split at h
  .rename_i h1;split at h
   .rename_i h2;simp only [fe,fm] at h;rw [<- h.2.1,z78 h2,z5x h1]
   .simp at h
  .simp at h
theorem z77 {call:zed} (hc:zie call) {ops:List Oper}:∀ {l:List Oper} {fr fr':Fr} {s s':CS} {logs:List Lg},CInv s->drawC P Γ call ops l fr s=some (logs,fr',s')->Can s s'
 |[],fr,fr',s,s',logs,hI,h=>by simp only [drawC,fe,fm] at h;rw [<- h.2.2];exact jp _
 |o :: l,fr,fr',s,s',logs,hI,h=>by
  simp only [drawC] at h;split at h
  .rename_i h1;split at h
   .rename_i h2;simp only [fe,fm] at h;have c1:=zm2 hI (zmo hc (zna hI) h1);rw [<- h.2.2];exact c1.trans (z77 hc (hI.next c1) h2)
   .simp at h
  .simp at h
theorem zny {fr:Fr}:∀ {l:List ResultVar} {s s':CS} {vs:List Value},resC Γ fr s l=some (vs,s')->Can s s'
 |[],s,s',vs,h=>by simp only [resC,fe,fm] at h;rw [<- h.2];exact jp _
 |.tmp t :: l,s,s',vs,h=>by
  simp only [resC] at h;split at h
  .rename_i h1;simp only [fe,fm] at h;rw [<- h.2];exact zny h1
  .simp at h
 |.cell a t :: l,s,s',vs,h=>by
  simp only [resC] at h;split at h
  .split at h
   .rename_i h1;split at h
    .rename_i h2;simp only [fe,fm] at h;rw [<- h.2];exact (zoy h1).trans (zny h2)
    .simp at h
   .simp at h
  .simp at h
def Exit.known:Exit->Prop
 |.normal=>True
 |.exit _=>True
 |.ret=>True
 |_=>False
theorem zty:∀ (ps:List Tmp) (vs:List Value) (fr:Fr),(zpq fr ps vs).nt=fr.nt
 |[],_,_=>rfl
 |_ :: _,[],_=>rfl
 |p :: ps,v :: vs,fr=>by rw [zpq,zty ps vs,Fr.put_nt]
def yo0 (it:Nat->Option It):Prop:=∀ f i,it f=some i->∀ caps s k s',i.key caps s=some (k,s')->CInv s->Can s s'/\s'.obj=s.obj/\s'.n=s.n
theorem zmy {run:Code->Fr->CS->Option (Exit×Fr×CS)} {key:CS->Option (List Nat×CS)} {k0:List Nat} {ps:List Tmp} {a b:Code} {fr:Fr}
    (hrun:∀ c fr s e fr' s',run c fr s=some (e,fr',s')->fr'.nt=fr.nt/\Exit.known e/\(CInv s->Can s s')) (hk:∀ s k s',key s=some (k,s')->CInv s->Can s s'):∀ (xs:List (List Value)) (s:CS) (e:Exit) (s':CS),zds run key k0 ps a b fr xs s=some (e,s')->Exit.known e/\(CInv s->Can s s')
  |[],s,e,s',h=>by
    simp only [zds,fe,fm] at h;obtain ⟨rfl,rfl⟩:=h;exact ⟨trivial,fun _=>jp _⟩
  |x :: xs,s,e,s',h=>by
    rw [zds] at h;obtain ⟨_,h⟩:=zee h;split at h
    . rename_i h1;obtain ⟨_,_,q3⟩:=hrun _ _ _ _ _ _ h1;split at h
      . rename_i h2;obtain ⟨_,_,r3⟩:=hrun _ _ _ _ _ _ h2;split at h
        . rename_i h3;obtain ⟨_,h⟩:=zee h;obtain ⟨t1,t2⟩:=zmy hrun hk xs _ _ _ h;refine ⟨t1,fun hI=>?_⟩;have c1:=q3 hI;have c2:=r3 (hI.next c1);have c12:=c1.trans c2;have c3:=hk _ _ _ h3 (hI.next c12);exact (c12.trans c3).trans (t2 (hI.next (c12.trans c3)))
        . simp at h
      . rename_i h2;obtain ⟨_,_,r3⟩:=hrun _ _ _ _ _ _ h2;simp only [fe,fm] at h;obtain ⟨rfl,rfl⟩:=h;exact ⟨trivial,fun hI=>(q3 hI).trans (r3 (hI.next (q3 hI)))⟩
      . rename_i h2;obtain ⟨_,_,r3⟩:=hrun _ _ _ _ _ _ h2;simp only [fe,fm] at h;obtain ⟨rfl,rfl⟩:=h;exact ⟨trivial,fun hI=>(q3 hI).trans (r3 (hI.next (q3 hI)))⟩
      . simp at h
    . simp at h
theorem zz7 (hA:zie (axC Γ)) (hIt:yo0 Γ.it):∀ (n:Nat),(∀ c fr s e fr' s',cm P Γ n c fr s=some (e,fr',s')->fr'.nt=fr.nt/\Exit.known e/\(CInv s->Can s s'))/\zie (zfh P Γ n):=by
  intro n
  induction n with
  |zero =>
    refine ⟨fun c fr s e fr' s' h=>by simp [cm] at h,?_⟩;intro f args s v s' h hI;unfold zfh at h;split at h
    . rename_i hx hax;exact hA f args s v s' (by unfold axC;rw [hax];exact h) hI
    split at h
    . split at h
      . simp only [cm,zcl] at h;split at h
        . rename_i hq;split at hq<;>simp at hq
        . rename_i hq;split at hq<;>simp at hq
        . simp at h
      . simp at h
    . simp at h
  |succ n ih =>
    obtain ⟨ih1,ih2⟩:=ih
    have hcode:∀ c fr s e fr' s',cm P Γ (n+1) c fr s=some (e,fr',s')->fr'.nt=fr.nt/\Exit.known e/\(CInv s->Can s s'):=by
      intro c fr s e fr' s' h
      cases c with
      |skip=>simp only [cm,fe,fm] at h;obtain ⟨rfl,rfl,rfl⟩:=h;exact ⟨rfl,trivial,fun _=>jp _⟩
      |label lb=>simp only [cm,fe,fm] at h;obtain ⟨rfl,rfl,rfl⟩:=h;exact ⟨rfl,trivial,fun _=>jp _⟩
      |exit id=>simp only [cm,fe,fm] at h;obtain ⟨rfl,rfl,rfl⟩:=h;exact ⟨rfl,trivial,fun _=>jp _⟩
      |ret=>simp only [cm,fe,fm] at h;obtain ⟨rfl,rfl,rfl⟩:=h;exact ⟨rfl,trivial,fun _=>jp _⟩
      |region id ops draw =>
        have h' : (bif draw then match drawC P Γ (zfh P Γ n) ops.toList ops.toList fr s with
            |some (logs,fr,t)=>bif calm s.n ops.toList logs then some (mz,fr,t) else none
            |none=>none
          else match runC P Γ (zfh P Γ n) ops.toList ops.toList fr s with
            |some (fr,s)=>some (mz,fr,s)
            |none=>none)=some (e,fr',s'):=h
        cases draw with
        |true =>
          simp only [cond_true] at h';split at h'
          . rename_i hd;obtain ⟨_,h'⟩:=zfc h';simp only [fe,fm] at h';obtain ⟨rfl,rfl,rfl⟩:=h';exact ⟨z78 hd,trivial,fun hI=>z77 ih2 hI hd⟩
          . simp at h'
        |false =>
          simp only [cond_false] at h';split at h'
          . rename_i hd;simp only [fe,fm] at h';obtain ⟨rfl,rfl,rfl⟩:=h';exact ⟨yb3 hd,trivial,fun hI=>z34 ih2 hI hd⟩
          . simp at h'
      |seq a b =>
        simp only [cm] at h;split at h
        . rename_i h1;obtain ⟨q1,q2,q3⟩:=ih1 _ _ _ _ _ _ h1;obtain ⟨r1,r2,r3⟩:=ih1 _ _ _ _ _ _ h;exact ⟨by rw [r1,q1],r2,fun hI=>(q3 hI).trans (r3 (hI.next (q3 hI)))⟩
        . exact ih1 _ _ _ _ _ _ h
      |cond c t e' =>
        simp only [cm] at h;split at h
        . exact ih1 _ _ _ _ _ _ h
        . simp at h
      |block id b =>
        simp only [cm] at h;split at h
        . rename_i h1;simp only [fe,fm] at h;obtain ⟨rfl,rfl,rfl⟩:=h;obtain ⟨q1,q2,q3⟩:=ih1 _ _ _ _ _ _ h1;refine ⟨q1,?_,q3⟩;have hk:∀ x:Bool,∀ i:Nat,Exit.known (bif x then mz else Exit.exit i):=fun x i=>by cases x<;>trivial
          exact hk _ _
        . exact ih1 _ _ _ _ _ _ h
      |loop b =>
        simp only [cm] at h;split at h
        . rename_i h1;obtain ⟨q1,q2,q3⟩:=ih1 _ _ _ _ _ _ h1;obtain ⟨r1,r2,r3⟩:=ih1 _ _ _ _ _ _ h;exact ⟨by rw [r1,q1],r2,fun hI=>(q3 hI).trans (r3 (hI.next (q3 hI)))⟩
        . exact ih1 _ _ _ _ _ _ h
      |scope b=>simp only [cm] at h;exact ih1 _ _ _ _ _ _ h
      |rangeFunc g ps a b =>
        rw [cm] at h;unfold zpo at h;split at h
        . split at h
          . rename_i hit hfirst;split at h
            . rename_i h1;split at h
              . rename_i h2;simp only [fe,fm] at h;obtain ⟨rfl,rfl,rfl⟩:=h;obtain ⟨t1,t2⟩:=zmy ih1 (fun s k s' q hI=>(hIt _ _ hit _ _ _ _ q hI).1) _ _ _ _ h2;refine ⟨rfl,t1,fun hI=>?_⟩;have c1:=(hIt _ _ hit _ _ _ _ h1 hI).1;exact c1.trans (t2 (hI.next c1))
              . simp at h
            . simp at h
          . simp at h
        . simp at h
      |goto lb=>simp [cm] at h
      |refuse why=>simp [cm] at h
    refine ⟨hcode,?_⟩;intro f args s v s' h hI;unfold zfh at h;split at h
    . rename_i hx hax;exact hA f args s v s' (by unfold axC;rw [hax];exact h) hI
    split at h
    . split at h
      . split at h
        . rename_i h1;obtain ⟨_,h1⟩:=zee h1;split at h
          . rename_i h2;simp only [fe,fm] at h;have c1:=(hcode _ _ _ _ _ _ h1).2.2 hI;rw [<- h.2];exact c1.trans (zny h2)
          . simp at h
        . rename_i h1;obtain ⟨_,h1⟩:=zee h1;split at h
          . rename_i h2;simp only [fe,fm] at h;have c1:=(hcode _ _ _ _ _ _ h1).2.2 hI;rw [<- h.2];exact c1.trans (zny h2)
          . simp at h
        . simp at h
      . simp at h
    . simp at h
def z06 (tmps:Array Value):ResultVar->Sem Value
 |.tmp t=>pure (tmps.getD t undef)
 |.cell a t=>do loadVar t (<- asAddr (tmps.getD a undef))
theorem z37 (hE:zeb P Γ) {σ:Sg} {V:Nat->Prop} {w:World} {fr:Fr} {a:Act} (hfr:FrR σ fr a):∀ {l:List ResultVar} {s s':CS} {vs:List Value},Rel σ V s w->zcm V s'->CInv s->ze8 σ s.n s'.n->resC Γ fr s l=some (vs,s') ->
    ∃ vs',(l.mapM (z06 a.tmps)).run P w=.ok vs' w/\RL (VR σ) vs vs'/\Rel σ V s' w/\Ext σ V s w σ s' w
  |[],s,s',vs,hr,hV,hI,hF,h=>by
    simp only [resC,fe,fm] at h;obtain ⟨rfl,rfl⟩:=h;exact ⟨[],by simp,trivial,hr,qq _ _ _ _⟩
  |.tmp t :: l,s,s',vs,hr,hV,hI,hF,h=>by
    simp only [resC] at h;split at h
    . rename_i vs1 s1 h1;simp only [fe,fm] at h;obtain ⟨rfl,rfl⟩:=h;obtain ⟨vs',e1,e2,e3,e4⟩:=z37 hE hfr hr hV hI hF h1;refine ⟨a.tmps.getD t undef :: vs',?_,⟨hfr.val t,e2⟩,e3,e4⟩;simp [List.mapM_cons,z06,e1]
    . simp at h
  |.cell q t :: l,s,s',vs,hr,hV,hI,hF,h=>by
    simp only [resC] at h;split at h
    . rename_i ad i hq hi;split at h
      . rename_i v1 s1 h1;split at h
        . rename_i vs1 s2 h2;simp only [fe,fm] at h;obtain ⟨rfl,rfl⟩:=h;have c2:=zny h2;have c1:=zoy h1;have hv:=hfr.val q;rw [hq] at hv;obtain ⟨b,o,z,hσ,he⟩:=hv.ptr;obtain ⟨v',f1,f2,f3,f4⟩:=zue hE hr hi h1 (hV.back c2) hσ;obtain ⟨vs',e1,e2,e3,e4⟩:=z37 hE hfr f3 hV (hI.next c1) (hF.mono c1.n (fp _)) h2;refine ⟨v' :: vs',?_,⟨f2,e2⟩,e3,f4.trans e4 c1 c2 hF hr.none⟩;simp only [List.mapM_cons,nq,z06,he,asAddr,Sem.run_pure,mn,f1,e1]
        . simp at h
      . simp at h
    . simp at h
theorem z36 (hE:zeb P Γ) {σ:Sg} {V:Nat->Prop} {w:World} {fr:Fr} {a:Act} (hfr:FrR σ fr a) {fn:Func} {s s':CS} {vs:List Value} (hr:Rel σ V s w) (hV:zcm V s') (hI:CInv s) (hF:ze8 σ s.n s'.n) (h:resC Γ fr s fn.results.toList=some (vs,s')) :
    ∃ v',(results fn a.tmps).run P w=.ok v' w/\VR σ (tupC vs) v'/\Rel σ V s' w/\Ext σ V s w σ s' w:=by
  obtain ⟨vs',e1,e2,e3,e4⟩:=z37 hE hfr hr hV hI hF h
  have hm:(results fn a.tmps)=(do let vs <- fn.results.mapM (z06 a.tmps);pure (if h:vs.size=1 then vs[0] else .tuple vs)):=by
    unfold results;congr 1
  have hrun:(fn.results.mapM (z06 a.tmps)).run P w=.ok vs'.toArray w:=by
    rw [Array.mapM_eq_mapM_toList];simp [nq,e1]
  refine ⟨if h:vs'.toArray.size=1 then vs'.toArray[0] else .tuple vs'.toArray,?_,?_,e3,e4⟩
  . rw [hm];simp only [nq,hrun,mn,Sem.run_pure]
  . have hl:=e2.length;unfold tupC;split
    . rename_i v
      cases vs' with
      |nil=>simp at hl
      |cons v' r =>
        cases r with
        |nil=>simp;exact e2.1
        |cons _ _=>simp at hl
    . rename_i hne;rw [dif_neg]
      . exact VR.mk ⟨_,rfl,by simpa using e2⟩
      . intro h1;simp at h1;rw [<- hl] at h1
        match vs,h1 with
        |[v],_=>exact hne v rfl
theorem zpt:∀ (l:List Value) (i:Nat) (fr:Fr),(o4 l i fr).nt=fr.nt
 |[],_,_=>rfl
 |v :: l,i,fr=>by simp only [o4];rw [zpt l (i+1),Fr.put_nt]
theorem zw5:∀ (l:List Value) (i:Nat) (fr:Fr),fr.nt<=512->i+l.length<=fr.nt->∀ t,(o4 l i fr).get t=if i<=t/\t<i+l.length then l.getD (t - i) undef else fr.get t
 |[],i,fr,_,_,t=>by rw [zAd (by simp)];rfl
 |v :: l,i,fr,h5,hl,t=>by
  simp only [o4];simp only [List.length_cons] at hl;rw [zw5 l (i+1) (fr.put i v) (by rw [Fr.put_nt];exact h5) (by rw [Fr.put_nt];omega) t];by_cases h1:t=i
  .subst h1;rw [zAd (by omega),zAc (by simp),Fr.get_put_same v (by omega) h5];simp
  .rw [Fr.get_put_other v h5 (Ne.symm h1)];by_cases h2:i+1<=t/\t<i+1+l.length
   .rw [zAc h2,zAc (by simp;omega)];rw [show t - i=(t - (i+1))+1 by omega];simp
   .rw [zAd h2,zAd (by simp;omega)]
theorem yeh {σ:Sg} {args:List Value} {args':Array Value} {nt:Nat} (h5:nt<=512) (hl:args.length<=nt) (hr:RL (VR σ) args args'.toList):FrR σ (o4 args 0 ⟨nt,Tr.all undef 9⟩) { tmps:=args'++qk (nt - args'.size) undef,defers:=[] }:=by
 have hlen:args.length=args'.size:=by rw [hr.length,jr]
 refine ⟨?_,by rw [zpt];exact h5,fun t=>?_⟩
 .rw [zpt];simp;omega
 .rw [zw5 args 0 _ h5 (by simpa using hl) t]
  have hund:(⟨nt,Tr.all undef 9⟩:Fr).get t=undef:=by
   unfold Fr.get;rw [zcl];split
   .exact Tr.get_all _ _ _
   .rfl
  by_cases h:t<args.length
  .rw [zAc ⟨by omega,by omega⟩];obtain ⟨y,hy,hv⟩:=hr.at (fk h);have e1:args.getD (t - 0) undef=args[t]:=by simp [h]
   rw [e1]
   have e2:(args'++qk (nt - args'.size) undef).getD t undef=y:=by
    rw [ki] at hy;simp only [kp];rw [Array.getElem?_append_left (by omega),hy];rfl
   rw [e2];exact hv
  .rw [zAd (by omega),hund]
   have e2:(args'++qk (nt - args'.size) undef).getD t undef=undef:=by
    simp only [kp];rw [Array.getElem?_append_right (by omega),n5];split<;>rfl
   rw [e2];exact VR.undef
end
section
variable {P:gn} {Γ:Env} {G:List Nat}
def Mk (σ:Sg) (w:World) (D:Nat):Prop:=w.heap[D]?=some (.deferred (some []))/\∀ f u o z,σ f u≠some (D,o,z)
def mark (D:Nat):Deferred:={ target:=.collected D,args:=#[] }
def znq (σ:Sg) (w:World) (B:Nat) (ds ds':List Deferred):Prop:=∃ Ds:List Nat,ds'=Ds.map mark++ds/\Ds.Nodup/\∀ D,D∈Ds->Mk σ w D/\B<=D
theorem znq.refl (σ:Sg) (w:World) (B:Nat) (ds:List Deferred):znq σ w B ds ds:=⟨[],rfl,.nil,fun _ h=>by simp at h⟩
theorem znq.of_eq {σ:Sg} {w:World} {B:Nat} {ds ds':List Deferred} (h:ds'=ds):znq σ w B ds ds':=by rw [h];exact znq.refl ..
theorem Ext.free {σ σ':Sg} {V:Nat->Prop} {s s':CS} {w w':World} (h:Ext σ V s w σ' s' w') {D:Nat} (hD:D<w.heap.size) (hf:∀ f u o z,σ f u≠some (D,o,z)):w'.heap[D]?=w.heap[D]?/\∀ f u o z,σ' f u≠some (D,o,z):=by
 refine ⟨h.frame D hD fun f u o z k=>absurd k (hf f u o z),fun f u o z k=>?_⟩
 cases h0:σ f u with
 |none =>
  obtain ⟨u0,o0,z0,h1,_⟩:=h.old f u D o z h0 k hD;exact hf _ _ _ _ h1
 |some p =>
  have:=h.le f u p h0;rw [k] at this;rw [<- Option.some.inj this] at h0;exact hf _ _ _ _ h0
theorem zbm {w:World} {D:Nat} {o:Obj} (h:w.heap[D]?=some o):D<w.heap.size:=(Array.getElem?_eq_some_iff.1 h).1
theorem Mk.next {σ σ':Sg} {V:Nat->Prop} {s s':CS} {w w':World} {D:Nat} (h:Mk σ w D) (k:Ext σ V s w σ' s' w'):Mk σ' w' D:=by
 obtain ⟨h1,h2⟩:=k.free (zbm h.1) h.2;exact ⟨h1.trans h.1,h2⟩
theorem znq.trans {σ σ1:Sg} {V:Nat->Prop} {s s1:CS} {w w1:World} {B:Nat} {ds ds1 ds2:List Deferred} (h:znq σ w B ds ds1) (k:Ext σ V s w σ1 s1 w1) (h2:znq σ1 w1 w.heap.size ds1 ds2) (hB:B<=w.heap.size):znq σ1 w1 B ds ds2:=by
 obtain ⟨D1,rfl,n1,a1⟩:=h;obtain ⟨D2,rfl,n2,a2⟩:=h2;refine ⟨D2++D1,by rw [List.map_append,gj],?_,fun D hD=>?_⟩
 .rw [List.nodup_append];refine ⟨n2,n1,fun x hx y hy=>?_⟩;have:=(a2 x hx).2;have:=zbm (a1 y hy).1.1;omega
 .rcases List.mem_append.1 hD with q|q
  .exact ⟨(a2 D q).1,jv hB (a2 D q).2⟩
  .exact ⟨(a1 D q).1.next k,(a1 D q).2⟩
def zo4 (σ:Sg) (w:World):Option Nat->Prop
 |none=>True
 |some l=>(∃ r0,w.heap[l]?=some (.loop r0))/\∀ f u o z,σ f u≠some (l,o,z)
theorem zo4.next {σ σ':Sg} {V:Nat->Prop} {s s':CS} {w w':World} {r:Option Nat} (h:zo4 σ w r) (k:Ext σ V s w σ' s' w'):zo4 σ' w' r:=by
 cases r with
 |none=>trivial
 |some l =>
  obtain ⟨⟨r0,h1⟩,h2⟩:=h;obtain ⟨k1,k2⟩:=k.free (zbm h1) h2;exact ⟨⟨r0,k1.trans h1⟩,k2⟩
def Post (V:Nat->Prop) (σ:Sg) (s:CS) (w:World) (a:Act) (e:Exit) (fr':Fr) (s':CS):Exit->Act->World->Prop :=
 fun e' a' w'=>e'=e/\∃ σ',FrR σ' fr' a'/\znq σ' w' w.heap.size a.defers a'.defers/\Rel σ' V s' w'/\Ext σ V s w σ' s' w'
def yfl (P:gn) (Γ:Env) (G:List Nat) (n:Nat):Prop:=∀ c fr s e fr' s' σ V w a r kd,cm P Γ n c fr s=some (e,fr',s')->zgx G fr.nt c=true->Rel σ V s w->zcm V s'->ze8 σ s.n s'.n->CInv s->zj0 G σ->FrR σ fr a->zo4 σ w r ->
 c.wpIn (zlm r) kd P (Post V σ s w a e fr' s') a w
def ykz (P:gn) (Γ:Env) (G:List Nat) (n:Nat):Prop:=∀ b fr s e fr' s' σ V w a r kd,cm P Γ n (.loop b) fr s=some (e,fr',s')->zgx G fr.nt b=true->Rel σ V s w->zcm V s'->ze8 σ s.n s'.n->CInv s->zj0 G σ->FrR σ fr a->zo4 σ w r ->
 Code.roundsIn (zlm r) kd P b (Post V σ s w a e fr' s') n a w
theorem Post.chain {V:Nat->Prop} {σ σ1:Sg} {s s1 s':CS} {w w1:World} {a a1:Act} {e:Exit} {fr':Fr} (he:Ext σ V s w σ1 s1 w1) (hd:znq σ1 w1 w.heap.size a.defers a1.defers) (c1:Can s s1) (c2:Can s1 s') (hF:ze8 σ s.n s'.n) (hn:∀ f,s.n<=f->zaa s.obj f=ze7) {x:Exit} {a2:Act} {w2:World}
    (h:Post V σ1 s1 w1 a1 e fr' s' x a2 w2):Post V σ s w a e fr' s' x a2 w2:=by
  obtain ⟨rfl,σ2,h1,h2,h3,h4⟩:=h;exact ⟨rfl,σ2,h1,hd.trans h4 h2 he.size,h3,he.trans h4 c1 c2 hF hn⟩
theorem Rel.to {σ:Sg} {V:Nat->Prop} {s:CS} {w w':World} (h:Rel σ V s w) (hs:w.heap.size<=w'.heap.size) (hb:∀ f u b o z,σ f u=some (b,o,z)->w'.heap[b]?=w.heap[b]?):Rel σ V s w' :=
 ⟨h.inj,fun f u b o z k=>gr (h.lt f u b o z k) hs,fun f hf=>(h.fam f hf).move (fun _ _ _ k=>k) (fun _ _=>rfl) fun u b o z k=>hb f u b o z k,h.none,h.vers⟩
theorem Rel.state {σ:Sg} {V:Nat->Prop} {s s1:CS} {w:World} (h:Rel σ V s w) (ho:s1.obj=s.obj) (hn:s1.n=s.n):Rel σ V s1 w :=
 ⟨h.inj,h.lt,fun f hf=>by rw [ho];exact h.fam f hf,fun f hf=>by rw [ho];exact h.none f (by rw [<- hn];exact hf),fun f p hp=>by rw [hn];rw [ho] at hp;exact h.vers f p hp⟩
theorem Ext.to {σ σ':Sg} {V:Nat->Prop} {s s':CS} {w w' w2:World} (h:Ext σ V s w σ' s' w') (hs:w'.heap.size<=w2.heap.size) (hb:∀ b,b<w.heap.size->w2.heap[b]?=w'.heap[b]?) (hst:Same w' w2):Ext σ V s w σ' s' w2 :=
 ⟨h.le,h.new,h.old,jv h.size hs,fun b k1 k2=>(hb b k1).trans (h.frame b k1 k2),h.st.trans hst⟩
theorem Ext.state {σ σ':Sg} {V:Nat->Prop} {s s' s2:CS} {w w':World} (h:Ext σ V s w σ' s' w') (hn:s2.n=s'.n):Ext σ V s w σ' s2 w' :=
 ⟨h.le,fun f u k1 k2=>by rw [hn];exact h.new f u k1 k2,h.old,h.size,h.frame,h.st⟩
theorem yf7 (w:World) (D:Nat) (o:Obj):Same w (w.putObj D o):=⟨rfl,rfl,rfl⟩
theorem Rel.putObj {σ:Sg} {V:Nat->Prop} {s:CS} {w:World} (h:Rel σ V s w) {D:Nat} (o:Obj) (hf:∀ f u o z,σ f u≠some (D,o,z)):Rel σ V s (w.putObj D o) :=
 h.to (Nat.le_of_eq World.putObj_size.symm) fun f u b o' z k=>kh fun e=>by subst e;exact hf _ _ _ _ k
theorem Ext.putObj {σ σ':Sg} {V:Nat->Prop} {s s':CS} {w w':World} (h:Ext σ V s w σ' s' w') {D:Nat} (o:Obj) (hD:w.heap.size<=D):Ext σ V s w σ' s' (w'.putObj D o) :=
 h.to (Nat.le_of_eq World.putObj_size.symm) (fun b hb=>kh (by omega)) (yf7 _ _ _)
theorem zuh {fn:Func} {tmps:Array Value} {R:Ending->World->Prop} {σ:Sg} {V:Nat->Prop} {s:CS} {σ0:Sg} {s0:CS} {w0:World}:∀ (Ds:List Nat) (w:World),Ds.Nodup->(∀ D,D∈Ds->Mk σ w D/\w0.heap.size<=D)->Rel σ V s w->Ext σ0 V s0 w0 σ s w ->
    (∀ w',Rel σ V s w'->Ext σ0 V s0 w0 σ s w'->∃ v,(results fn tmps).run P w'=.ok v w'/\R (.returned v) w')->LeavesInM (zlm none) 0 P fn tmps R (Ds.map mark) .returning w
  |[],w,_,_,hr,he,h=>h w hr he
  |D :: Ds,w,hn,hm,hr,he,h=>by
    obtain ⟨⟨m1,m2⟩,m3⟩:=hm D (.head _);refine ⟨by simp,.inl ⟨D,_,rfl,run_takeDeferred m1,?_⟩⟩;have hn':=List.nodup_cons.1 hn;refine zuh Ds _ hn'.2 (fun D' hD'=>?_) (hr.putObj _ m2) (he.putObj _ m3) h;obtain ⟨⟨k1,k2⟩,k3⟩:=hm D' (.tail _ hD');have hne:D'≠D:=by rintro rfl;exact hn'.1 hD'
    exact ⟨⟨(kh hne).trans k1,k2⟩,k3⟩
theorem yec {L:List Nat} {ax:Axs} (hL:zng P G L=true) {f:Nat} {fn:Func} (h:(zhs P L ax).fn.at f=some fn):z7u G fn=true/\P.funcs[f]?=some fn:=by
 have h1:=Tab.at_mk _ _ _ h;rw [zcl] at h1;split at h1
 .rename_i hf;refine ⟨?_,h1⟩;unfold zng at hL;have:=ib.1 hL f (zzv hf);rw [h1] at this;exact this
 .simp at h1
def Now (i:It) (caps':Array Value) (k:List Nat) (W:World):Prop:=∃ σ V s s1 caps,RL (VR σ) caps caps'.toList/\Rel σ V s W/\zcm V s1/\CInv s/\i.key caps s=some (k,s1)
structure ItOk (P:gn) (gf:Nat) (i:It):Prop where
 can:∀ caps s k s',i.key caps s=some (k,s')->CInv s->Can s s'/\s'.obj=s.obj/\s'.n=s.n
 plain:∀ k x,x∈i.xs k->∀ σ,RL (VR σ) x x
 enter:∀ args w,(callFunc gf args).run P w=.ok (.enter gf args) w
 runs:∀ (caps':Array Value) (k:List Nat) (kd l:Nat) (J:List (Nat×Obj)->Nat->World->Prop) (Jx:World->Prop) (W:World),
  (∀ K j W1,J K j W1->Now i caps' k W1)->(∀ K j W1 W2,J K j W1->Below W1.heap.size W1 W2->J K j W2)->(∀ W1 W2,Jx W1->Below W1.heap.size W1 W2->Jx W2) ->
  (∀ K j W1 W2 b o,J K j W1->Below W1.heap.size W1 W2->W1.heap.size<=b->W2.heap[b]?=some o->J ((b,o) :: K) j W2)->(∀ K j W1 b o,J K j W1->(b,o)∈K->W1.heap[b]?=some o) ->
  (∀ kd' K j x W1,(i.xs k)[j]?=some x->J K j W1->YieldAt me kd' P l x.toArray W1 fun e W'=>(e=.returned (.bool true)/\J K (j+1) W')\/(e=.returned (.bool false)/\Jx W')) ->
  J [] 0 W->CallsIn me kd P gf (#[.func (.yield l) #[] #[]]++caps') W fun e W'=>(∃ v,e=.returned v)/\((∃ K,J K (i.xs k).length W')\/Jx W')
def z3o (P:gn) (L:List Nat):Prop:=∀ gf i,z4w P L gf=some i->ItOk P gf i
theorem z3o.can {L:List Nat} (h:z3o P L):yo0 (z4w P L):=fun f i hi caps s k s' hk hI=>(h f i hi).can caps s k s' hk hI
theorem ztl:∀ {l m:List Nat},zh0 l m=true->m=l
 |[],[],_=>rfl
 |a :: l,b :: m,h=>by
  simp only [zh0,fj] at h;rw [ztl h.2,fl h.1]
 |[],_ :: _,h=>by simp [zh0] at h
 |_ :: _,[],h=>by simp [zh0] at h
theorem zw0 {σ:Sg}:∀ (ps:List Tmp) (x:List Value) (fr:Fr) (tmps:Array Value),FrR σ fr { tmps:=tmps,defers:=[] }->(∀ p,p∈ps->p<fr.nt)->RL (VR σ) x x ->
    FrR σ (zpq fr ps x) { tmps:=(ps.zip x).foldl (fun t (p,v)=>t.setIfInBounds p v) tmps,defers:=[] }
  |[],x,fr,tmps,h,_,_=>h
  |p :: ps,[],fr,tmps,h,_,_=>h
  |p :: ps,v :: x,fr,tmps,h,hp,hx=>by
    have h1:=h.put (v:=v) (v':=v) hx.1 (d:=some p) fun t ht=>by rw [<- Option.some.inj ht];exact hp p (.head _)
    exact zw0 ps x (fr.put p v) (tmps.setIfInBounds p v) h1 (fun q hq=>by rw [Fr.put_nt];exact hp q (.tail _ hq)) hx.2
theorem FrR.act {σ:Sg} {fr:Fr} {a a':Act} (h:FrR σ fr a) (ht:a'.tmps=a.tmps):FrR σ fr a':=⟨by rw [ht];exact h.size,h.small,fun t=>by rw [ht];exact h.val t⟩
def ydo:Exit->Option Code
 |.ret=>some .ret
 |.exit i=>some (.exit i)
 |_=>none
theorem z92 {σ:Sg} {w:World} {r:Option Nat} (hr:zo4 σ w r) (fn:FuncId) (tmps:Array Value) (ps:Array Tmp) (a b:Code) :
    ∃ (L:Nat) (Ds:List Nat) (W:World) (rec:Loop),(Instr.enterLoop fn tmps ps a b r).run P w=.ok (L,Ds.map mark) W/\Below w.heap.size w W/\w.heap.size<=L/\W.heap[L]?=some (.loop rec) /\
      (rec.state=.ready/\rec.pending=none/\rec.fn=fn/\rec.tmps=tmps/\rec.params=ps/\rec.assign=a/\rec.body=b)/\Ds.Nodup/\∀ D,D∈Ds->w.heap.size<=D/\D≠L/\W.heap[D]?=some (.deferred (some [])):=by
  cases r with
  |none =>
    have hA:=qh (w.alloc (.deferred (some []))) (.loop { state:=.ready,pending:=none,fn:=fn,tmps:=tmps,params:=ps,assign:=a,body:=b,defers:=w.heap.size });rw [World.size_alloc] at hA
    have hD:((w.alloc (.deferred (some []))).alloc (.loop { state:=.ready,pending:=none,fn:=fn,tmps:=tmps,params:=ps,assign:=a,body:=b,defers:=w.heap.size })).heap[w.heap.size]?=some (.deferred (some [])) :=
      (Below.heap_alloc _ _ _ (by simp)).trans (qh w _)
    refine ⟨w.heap.size+1,[w.heap.size],_,_,run_enterLoop_outer _ _ _ _ _,((Below.refl _ w).alloc (fp _) _).alloc (by simp) _,by omega,hA,⟨rfl,rfl,rfl,rfl,rfl,rfl,rfl⟩,by simp,fun D hD'=>?_⟩;rw [List.mem_singleton] at hD';subst hD';exact ⟨fp _,by omega,hD⟩
  |some l =>
    obtain ⟨⟨r0,h0⟩,_⟩:=hr;refine ⟨w.heap.size,[],_,_,run_enterLoop_inner h0 _ _ _ _ _,(Below.refl _ w).alloc (fp _) _,fp _,qh w _,⟨rfl,rfl,rfl,rfl,rfl,rfl,rfl⟩,.nil,fun D hD=>by simp at hD⟩
set_option maxHeartbeats 1000000 in
theorem yf4 {Γ:Env} {n:Nat} {L0:List Nat} (hA:zie (axC Γ)) (hIt:z3o P L0) (hΓ:Γ.it=z4w P L0) (hc:yfl P Γ G n) {g:f7} {ps:Array Tmp} {x y:Code} {fr fr':Fr} {s s':CS} {e:Exit} {σ:Sg} {V:Nat->Prop} {w:World} {a:Act} {r:Option Nat} {kd:Nat}
    (h:zpo (cm P Γ n) Γ.it (zg6 fr g) ps.toList x y fr s=some (e,fr',s')) (hg:zlg G g=true) (hps:∀ p,p∈ps.toList->p<fr.nt) (hx:zgx G fr.nt x=true) (hy:zgx G fr.nt y=true)
    (hr:Rel σ V s w) (hV:zcm V s') (hF:ze8 σ s.n s'.n) (hI:CInv s) (hG:zj0 G σ) (hfr:FrR σ fr a) (hR:zo4 σ w r):(Code.rangeFunc g ps x y).wpIn (zlm r) kd P (Post V σ s w a e fr' s') a w:=by
  have hfacts:=(zz7 (P:=P) (Γ:=Γ) hA (by rw [hΓ];exact hIt.can) n).1;have hv:VR σ (zg6 fr g) (a.eval g):=zu0 hG hg fun t _=>hfr.val t;unfold zpo at h;split at h
  . rename_i gf first caps hgv
    split at h
    . rename_i i hit hfirst;rw [hΓ] at hit;have hi:=hIt gf i hit;split at h
      . rename_i k s1 hk;split at h
        . rename_i e1 s2 hrounds;simp only [fe,fm] at h;obtain ⟨rfl,rfl,rfl⟩:=h;rw [hgv] at hv;obtain ⟨first',caps',hav,hf1,hf2⟩:=hv.out
          have hfe:first'=#[]:=by
            rw [hfirst] at hf1
            cases hq:first'.toList with
            |nil=>exact Array.toList_eq_nil_iff.1 hq
            |cons _ _=>rw [hq] at hf1;exact absurd hf1 (by simp [RL])
          subst hfe;obtain ⟨c1,o1,n1⟩:=hi.can _ _ _ _ hk hI;have hrf:=fun xs t e t'=>zmy (run:=cm P Γ n) (key:=i.key caps.toList) (k0:=k) (ps:=ps.toList) (a:=x) (b:=y) (fr:=fr) hfacts (fun s k s' q hI=>(hi.can _ _ _ _ q hI).1) xs t e t';refine wpIn_rangeFunc ?_;intro fn hfn;obtain ⟨L,Ds,W,rec,he,hb,hL,hWL,⟨hr1,hr2,hr3,hr4,hr5,hr6,hr7⟩,hnd,hDs⟩:=z92 (P:=P) hR fn a.tmps ps x y;have hLW:=zbm hWL;have hfreeL:∀ f u o z,σ f u≠some (L,o,z):=fun f u o z q=>by have:=hr.lt f u L o z q;omega
          have hfreeD:∀ D,w.heap.size<=D->∀ f u o z,σ f u≠some (D,o,z):=fun D hD f u o z q=>by have:=hr.lt f u D o z q;omega
          refine ⟨L,Ds.map mark,W,{ target:=.fn (.func gf) caps',args:=#[.func (.yield L) #[] #[]] },W,gf,#[.func (.yield L) #[] #[]]++caps',W,he,?_,fun _ _=>trivial,?_,fun hd=>absurd hd (by simp [zlm,me]),?_⟩
          . simp only [resolve,hav];simp [go_sem]
          . simp [invoke,go_sem,hi.enter]
          -- between two rounds
          let J:List (Nat×Obj)->Nat->World->Prop:=fun K j W1=>∃ σ1 t sj,i.key caps.toList t=some (k,sj)/\CInv t/\Can s sj/\zds (cm P Γ n) (i.key caps.toList) k ps.toList x y fr ((i.xs k).drop j) sj=some (e1,s2)/\Rel σ1 V t W1/\Rel σ1 V sj W1/\Ext σ V s w σ1 sj W1/\W1.heap[L]?=some (.loop rec)/\(∀ f u o z,σ1 f u≠some (L,o,z))/\(∀ D,D∈Ds->Mk σ1 W1 D)/\∀ p,p∈K->W1.heap[p.1]?=some p.2/\p.1≠L/\∀ f u o z,σ1 f u≠some (p.1,o,z)
          let Jx:World->Prop:=fun W1=>∃ σ1 c,ydo e1=some c/\Rel σ1 V s2 W1/\Ext σ V s w σ1 s2 W1/\W1.heap[L]?=some (.loop { rec with state:=.done,pending:=some c })/\(∀ f u o z,σ1 f u≠some (L,o,z))/\∀ D,D∈Ds->Mk σ1 W1 D
          have hMkb:∀ {σ1 W1 W2 D},Mk σ1 W1 D->Below W1.heap.size W1 W2->Mk σ1 W2 D:=fun h b=>⟨(b.block _ (zbm h.1)).trans h.1,h.2⟩;have hExb:∀ {σ1 sj W1 W2},Ext σ V s w σ1 sj W1->Below W1.heap.size W1 W2->Ext σ V s w σ1 sj W2:=fun h b=>h.to b.size (fun q hq=>b.block q (gr hq h.size)) ⟨b.os,b.tape,b.output⟩;have hRb:∀ {σ1 sj W1 W2},Rel σ1 V sj W1->Below W1.heap.size W1 W2->Rel σ1 V sj W2:=fun h b=>h.to b.size fun f u q o z hq=>b.block q (h.lt f u q o z hq);have hcall:=hi.runs caps' k (kd - 1) L J Jx W ?_ ?_ ?_ ?_ ?_ ?_ ?_
          . show CallsIn me (kd - 1) P gf _ W _;refine hcall.mono ?_;rintro q W1 ⟨⟨v,rfl⟩,⟨K,hJ⟩|hJ⟩
            . obtain ⟨σ1,t,sj,j1,j2,j3,j4,j5,j6,j7,j8,j9,j10,_⟩:=hJ;rw [List.drop_of_length_le (fp _)] at j4;simp only [zds,fe,fm] at j4;obtain ⟨rfl,rfl⟩:=j4;refine ⟨none,W1.putObj L (.loop { rec with state:=.exhausted }),?_,⟨rfl,σ1,(hfr.up j7.le).act rfl,⟨Ds,rfl,hnd,fun D hD=>?_⟩,j6.putObj _ j9,j7.putObj _ hL⟩⟩
              . have:=run_endLoop (P:=P) j8 (by rw [hr1];simp);exact this.trans (by rw [hr2])
              . obtain ⟨d1,d2,_⟩:=hDs D hD;exact ⟨⟨(kh d2).trans (j10 D hD).1,(j10 D hD).2⟩,d1⟩
            . obtain ⟨σ1,c,j1,j2,j3,j4,j5,j6⟩:=hJ;refine ⟨some c,_,run_endLoop (P:=P) j4 (by simp),?_⟩
              have hq:Post V σ s w a e1 fr s2 e1 { a with defers:=Ds.map mark++a.defers } (W1.putObj L (.loop { rec with state:=.exhausted,pending:=some c })):=by
                refine ⟨rfl,σ1,(hfr.up j3.le).act rfl,⟨Ds,rfl,hnd,fun D hD=>?_⟩,j2.putObj _ j5,j3.putObj _ hL⟩;obtain ⟨d1,d2,_⟩:=hDs D hD;exact ⟨⟨(kh d2).trans (j6 D hD).1,(j6 D hD).2⟩,d1⟩
              cases e1 with
              |ret=>cases j1;exact wpIn_ret hq
              |exit id=>cases j1;exact wpIn_exit hq
              |normal=>cases j1
              |goto lb=>cases j1
              |panic ch=>cases j1
              |outgrown=>cases j1
          . -- the iterator reads as it did
            rintro K j W1 ⟨σ1,t,sj,j1,j2,j3,j4,j5,j6,j7,_⟩;refine ⟨σ1,V,t,sj,caps.toList,hf2.up j7.le,j5,hV.back ?_,j2,j1⟩;exact (hrf _ _ _ _ j4).2 (j2.next (hi.can _ _ _ _ j1 j2).1)
          . rintro K j W1 W2 ⟨σ1,t,sj,j1,j2,j3,j4,j5,j6,j7,j8,j9,j10,j11⟩ b;exact ⟨σ1,t,sj,j1,j2,j3,j4,hRb j5 b,hRb j6 b,hExb j7 b,(b.block _ (zbm j8)).trans j8,j9,fun D hD=>hMkb (j10 D hD) b,fun p hp=>⟨(b.block _ (zbm (j11 p hp).1)).trans (j11 p hp).1,(j11 p hp).2⟩⟩
          . rintro W1 W2 ⟨σ1,c,j1,j2,j3,j4,j5,j6⟩ b;exact ⟨σ1,c,j1,hRb j2 b,hExb j3 b,(b.block _ (zbm j4)).trans j4,j5,fun D hD=>hMkb (j6 D hD) b⟩
          . -- a new row is kept
            rintro K j W1 W2 nb no ⟨σ1,t,sj,j1,j2,j3,j4,j5,j6,j7,j8,j9,j10,j11⟩ b hnb hno;refine ⟨σ1,t,sj,j1,j2,j3,j4,hRb j5 b,hRb j6 b,hExb j7 b,(b.block _ (zbm j8)).trans j8,j9,fun D hD=>hMkb (j10 D hD) b,fun p hp=>?_⟩;rcases kj.1 hp with rfl|hp
            . have hl8:=zbm j8;exact ⟨hno,fun e=>by have:nb=L:=e;omega,fun f u o z q=>by have:=j5.lt f u nb o z q;omega⟩
            . exact ⟨(b.block _ (zbm (j11 p hp).1)).trans (j11 p hp).1,(j11 p hp).2⟩
          . rintro K j W1 nb no ⟨σ1,t,sj,j1,j2,j3,j4,j5,j6,j7,j8,j9,j10,j11⟩ hp;exact (j11 _ hp).1
          . -- one round
            rintro kd' K j xv W1 hxj ⟨σ1,t,sj,j1,j2,j3,j4,j5,j6,j7,j8,j9,j10,j11⟩;have hlt:=(ge.1 hxj).1;have hxe:=(ge.1 hxj).2;rw [List.drop_eq_getElem_cons hlt,hxe,zds] at j4;obtain ⟨hlen,j4⟩:=zee j4;have hlen:=fl hlen;have hpl:=hi.plain k xv (jl hxj);have ct:=(hi.can _ _ _ _ j1 j2).1;have hIj:=j2.next ct
            -- the assignments
            split at j4
            . rename_i fr1 t1 h1;obtain ⟨q1,_,q3⟩:=hfacts _ _ _ _ _ _ h1;have d1:=q3 hIj
              -- the body
              have hbody:∃ eb fr2 t2,cm P Γ n y fr1 t1=some (eb,fr2,t2)/\((eb=.normal/\∃ t3,i.key caps.toList t2=some (k,t3)/\zds (cm P Γ n) (i.key caps.toList) k ps.toList x y fr ((i.xs k).drop (j+1)) t3=some (e1,s2))\/(eb=e1/\t2=s2/\∃ c,ydo e1=some c)):=by
                split at j4
                . rename_i fr2 t2 h2;split at j4
                  . rename_i k1 t3 h3;obtain ⟨hsame,j4⟩:=zee j4;rw [ztl hsame] at h3;exact ⟨_,_,_,h2,.inl ⟨rfl,t3,h3,j4⟩⟩
                  . simp at j4
                . rename_i fr2 t2 h2;simp only [fe,fm] at j4;obtain ⟨rfl,rfl⟩:=j4;exact ⟨_,_,_,h2,.inr ⟨rfl,rfl,_,rfl⟩⟩
                . rename_i id fr2 t2 h2;simp only [fe,fm] at j4;obtain ⟨rfl,rfl⟩:=j4;exact ⟨_,_,_,h2,.inr ⟨rfl,rfl,_,rfl⟩⟩
                . simp at j4
              obtain ⟨eb,fr2,t2,h2,hend⟩:=hbody;obtain ⟨p1,_,p3⟩:=hfacts _ _ _ _ _ _ h2;have d2:=p3 (hIj.next d1)
              have d3:Can t2 s2:=by
                rcases hend with ⟨_,t3,h3,h4⟩|⟨_,rfl,_⟩
                . have cc:=(hi.can _ _ _ _ h3 ((hIj.next d1).next d2)).1;exact cc.trans ((hrf _ _ _ _ h4).2 (((hIj.next d1).next d2).next cc))
                . exact jp _
              have hFj:ze8 σ1 sj.n s2.n:=hF.next j7 j3
              refine ⟨rec.fn,_,rec.assign,rec.body,run_yield j8 (by rw [hr5];simpa using hlen),roundIn_of_wpIn trivial ?_⟩;rw [hr4,hr5,hr6,hr7]
              have htm:((ps.zip xv.toArray).foldl (fun tmps (t,a)=>tmps.setIfInBounds t a) a.tmps)=(ps.toList.zip xv).foldl (fun t (p,v)=>t.setIfInBounds p v) a.tmps:=by
                rw [<- Array.foldl_toList,Array.toList_zip]
              rw [htm];have hfr1:FrR σ1 (zpq fr ps.toList xv) { tmps:=(ps.toList.zip xv).foldl (fun t (p,v)=>t.setIfInBounds p v) a.tmps,defers:=[] }:=zw0 ps.toList xv fr a.tmps ((hfr.up j7.le).act rfl) hps (hpl σ1);refine ls ?_ (hc x (zpq fr ps.toList xv) sj _ fr1 t1 σ1 V W1 _ (some L) kd' h1 (by rw [zty];exact hx) j6 (hV.back (d2.trans d3)) (hFj.mono (fp _) (d2.trans d3).n) hIj (hG.up j7.le) hfr1 ⟨⟨rec,j8⟩,j9⟩);rintro ea a3 W3 ⟨rfl,σ2,k1,_,k3,k4⟩;obtain ⟨f1,f2⟩:=k4.free (zbm j8) j9;have hl3:=f1.trans j8;refine ⟨_,run_beginRound hl3 hr1,?_⟩;have hE3:Ext σ V s w σ2 t1 W3:=j7.trans k4 j3 d1 (hF.mono (fp _) (d2.trans d3).n) hI.none;have hE4:Ext σ V s w σ2 t1 (W3.putObj L (.loop { rec with state:=.busy })):=hE3.putObj _ hL;have hl4:(W3.putObj L (.loop { rec with state:=.busy })).heap[L]?=some (.loop { rec with state:=.busy }):=World.putObj_heap_same (zbm hl3);have hm4:∀ D,D∈Ds->Mk σ2 (W3.putObj L (.loop { rec with state:=.busy })) D:=fun D hD=>⟨(kh (hDs D hD).2.1).trans ((j10 D hD).next k4).1,((j10 D hD).next k4).2⟩;have hFt:ze8 σ2 t1.n s2.n:=hF.next hE3 (j3.trans d1)
              refine ls ?_ (hc y fr1 t1 eb fr2 t2 σ2 V _ a3 (some L) kd' h2 (by rw [q1,zty];exact hy) (k3.putObj _ f2) (hV.back d3) (hFt.mono (fp _) d3.n) (hIj.next d1) (hG.up hE3.le) k1 ⟨⟨_,hl4⟩,f2⟩);rintro e5 a5 W5 ⟨rfl,σ3,l1,_,l3,l4⟩;obtain ⟨g1,g2⟩:=l4.free (zbm hl4) f2;have hl5:=g1.trans hl4;have hE5:Ext σ V s w σ3 t2 W5:=hE4.trans l4 (j3.trans d1) d2 (hF.mono (fp _) d3.n) hI.none;have hm5:∀ D,D∈Ds->Mk σ3 W5 D:=fun D hD=>(hm4 D hD).next l4
              rcases hend with ⟨rfl,t3,h3,h4⟩|⟨rfl,rfl,c,hcj⟩
              . refine ⟨_,_,run_endRound none hl5,.inl ⟨rfl,?_⟩⟩
                have hrec:({ { rec with state:=.busy } with state:=.ready,pending:=none }:Loop)=rec:=by
                  cases rec;simp only at hr1 hr2;rw [hr1,hr2]
                obtain ⟨cc,oo,nn⟩:=hi.can _ _ _ _ h3 ((hIj.next d1).next d2);show J K (j+1) (W5.putObj L (.loop ({ { rec with state:=.busy } with state:=.ready,pending:=none }:Loop)));rw [hrec];refine ⟨σ3,t2,t3,h3,(hIj.next d1).next d2,(j3.trans (d1.trans d2)).trans cc,h4,l3.putObj _ g2,(l3.putObj _ g2).state oo nn,(hE5.putObj _ hL).state nn,World.putObj_heap_same (zbm hl5),g2,fun D hD=>?_,fun p hp=>?_⟩
                . exact ⟨(kh (hDs D hD).2.1).trans (hm5 D hD).1,(hm5 D hD).2⟩
                . obtain ⟨q1,q2,q3⟩:=j11 p hp;obtain ⟨u1,u2⟩:=k4.free (zbm q1) q3;have u3:=(kh (o:=.loop { rec with state:=.busy }) (w:=W3) q2).trans (u1.trans q1);obtain ⟨v1,v2⟩:=l4.free (zbm u3) u2;exact ⟨(kh q2).trans (v1.trans u3),q2,v2⟩
              . have hfin:∀ c',ydo e5=some c'->Jx (W5.putObj L (.loop ({ { rec with state:=.busy } with state:=.done,pending:=some c' }:Loop))):=fun c' hc' =>
                  ⟨σ3,c',hc',l3.putObj _ g2,hE5.putObj _ hL,World.putObj_heap_same (zbm hl5),g2,fun D hD=>⟨(kh (hDs D hD).2.1).trans (hm5 D hD).1,(hm5 D hD).2⟩⟩
                cases e5 with
                |ret=>exact ⟨_,_,run_endRound (some .ret) hl5,.inr ⟨rfl,hfin _ rfl⟩⟩
                |exit id=>exact ⟨_,_,run_endRound (some (.exit id)) hl5,.inr ⟨rfl,hfin _ rfl⟩⟩
                |normal=>cases hcj
                |goto lb=>cases hcj
                |panic ch=>cases hcj
                |outgrown=>cases hcj
            . simp at j4
          . -- at the beginning
            refine ⟨σ,s,s1,hk,hI,c1,hrounds,hRb hr ?_,(hRb hr ?_).state o1 n1,(Ext.state (hExb (qq σ V s w) hb) n1),hWL,hfreeL,fun D hD=>?_,fun p hp=>absurd hp (by simp)⟩
            . exact hb
            . exact hb
            . exact ⟨(hDs D hD).2.2,hfreeD D (hDs D hD).1⟩
        . simp at h
      . simp at h
    . simp at h
  . simp at h
theorem ye2 {L:List Nat} {ax:Axs} (hA:zie (axC (zhs P L ax))) (hIt:z3o P L) (hB:zr5 P G (axC (zhs P L ax))) (hL:zng P G L=true) {n:Nat} (hc:yfl P (zhs P L ax) G n):zr5 P G (zfh P (zhs P L ax) n):=by
  intro f args args' s v s' w σ V h hl hr hV hF hI hG;have hE:=yeg P L ax;unfold zfh at h;split at h
  . rename_i hx hax;exact hB f args args' s v s' w σ V (by unfold axC;rw [hax];exact h) hl hr hV hF hI hG
  cases hfn:(zhs P L ax).fn.at f with
  |none=>rw [hfn] at h;simp at h
  |some fn =>
    rw [hfn] at h;simp only at h;obtain ⟨hok,hfun⟩:=yec hL hfn;unfold z7u at hok;simp only [fj] at hok;obtain ⟨⟨h512,hname⟩,hbody⟩:=hok
    cases hb:fn.body with
    |none=>rw [hb] at h;simp at h
    |some body =>
      rw [hb] at h hbody;simp only at h hbody
      -- both ways to leave
      have key : ∀ e fr1 s1 vs, (e = .normal \/ e = .ret) -> sel (Nat.ble args.length fn.ntmps) (cm P (zhs P L ax) n body (o4 args 0 ⟨fn.ntmps, Tr.all undef 9⟩) s) none = some (e, fr1, s1) -> resC (zhs P L ax) fr1 s1 fn.results.toList = some (vs, s') -> v = tupC vs ->
          Calls P f args' w fun e w'=>∃ σ' v',e=.returned v'/\VR σ' v v'/\Rel σ' V s' w'/\Ext σ V s w σ' s' w':=by
        intro e fr1 s1 vs hex h1 h2 h3;obtain ⟨hlen,h1⟩:=zee h1;have c1:=((zz7 (P:=P) (Γ:=zhs P L ax) hA hIt.can n).1 _ _ _ _ _ _ h1).2.2 hI;have c2:=zny h2;have hnt:(o4 args 0 ⟨fn.ntmps,Tr.all undef 9⟩).nt=fn.ntmps:=zpt _ _ _;have hfr:=yeh (σ:=σ) (zav.1 h512) (zav.1 hlen) hl;have hw:=hc body _ s e fr1 s1 σ V w _ none 0 h1 (by rw [hnt];exact hbody) hr (hV.back c2) (hF.mono (fp _) c2.n) hI hG hfr trivial;refine yko.1 (callsIn_of_wp_marks (F:=zlm none) (n:=0) hfun hb trivial (ls ?_ hw) rfl);rintro e' a' w' ⟨rfl,σ1,k1,⟨Ds,k2,kn,km⟩,k3,k4⟩;have kd:a'.defers=Ds.map mark:=by rw [k2];exact List.append_nil _
        have hL:LeavesInM (zlm none) 0 P fn a'.tmps (fun e w'=>∃ σ' v',e=.returned v'/\VR σ' v v'/\Rel σ' V s' w'/\Ext σ V s w σ' s' w') (Ds.map mark) .returning w':=by
          refine zuh (σ:=σ1) (V:=V) (s:=s1) (σ0:=σ) (s0:=s) (w0:=w) Ds w' kn km k3 k4 fun w2 k3 k4=>?_;obtain ⟨v',q1,q2,q3,q4⟩:=z36 hE k1 k3 hV (hI.next c1) (hF.next k4 c1) h2;exact ⟨v',q1,σ1,v',rfl,by rw [h3];exact q2,q3,k4.trans q4 c1 c2 hF hI.none⟩
        rw [<- kd] at hL;rcases hex with rfl|rfl
        . exact hL
        . exact hL
      refine ⟨f,?_,?_⟩
      . have hne : ¬ fn.name = "runtime.NumGoroutine" := by simpa using hname
        simp [callFunc,hfun,hne,hb]
      . split at h
        . rename_i fr1 s1 h1;split at h
          . rename_i vs s2 h2;simp only [fe,fm] at h;obtain ⟨rfl,rfl⟩:=h;exact key _ fr1 s1 vs (.inl rfl) h1 h2 rfl
          . simp at h
        . rename_i fr1 s1 h1;split at h
          . rename_i vs s2 h2;simp only [fe,fm] at h;obtain ⟨rfl,rfl⟩:=h;exact key _ fr1 s1 vs (.inr rfl) h1 h2 rfl
          . simp at h
        . simp at h
theorem z3v {b:Frame} {a:Act} {k:List Item} {cs:List Frame} {w:World} {c:Code}:step P (lone (b.atR a (.code (.scope c) :: k)) cs w)=.next (lone (b.atR a (.code c :: .inScope c :: k)) cs w) :=
 step_lone_go (by simp [stepG,stepG.exec,Frame.atR])
theorem zyx {b:Frame} {a:Act} {k:List Item} {cs:List Frame} {w:World} {c:Code}:step P (lone (b.atR a (.inScope c :: k)) cs w)=.next (lone (b.atR a k) cs w) :=
 step_lone_go (by simp [stepG,stepG.exec,Frame.atR])
theorem zom {F:Fence} {kd:Nat} {c:Code} {Q:Exit->Act->World->Prop} {a:Act} {w:World} (h:c.wpIn F kd P (Exit.noGoto Q) a w):(Code.scope c).wpIn F kd P Q a w:=by
  intro b k cs hro hb hr;have h0:StepsIn (Machine.fenced P F) P (lone (b.atR a (.code (.scope c) :: k)) cs w) (lone (b.atR a (.code c :: .inScope c :: k)) cs w):=.one (fenced_calm hb hr rfl) z3v;obtain ⟨e,a₁,w₁,hq,harr⟩:=h b (.inScope c :: k) cs hro hb hr
  cases e with
  |normal=>exact ⟨.normal,a₁,w₁,hq,StepsIn.trans h0 (StepsIn.trans harr (.one (fenced_calm hb hr rfl) zyx))⟩
  | exit id => exact ⟨.exit id, a₁, w₁, hq, fun k' hk => StepsIn.trans h0 (harr.1 k' (by simp [exitTo, hk])), fun hr' hk => by
      obtain ⟨k1,hk1,hs⟩:=harr.2 hr' (by simp [exitTo,hk])
      exact ⟨k1,hk1,StepsIn.trans h0 hs⟩⟩
  |goto l=>exact hq.elim
  |ret=>exact ⟨_,a₁,w₁,hq,.of_steps h0 harr⟩
  |panic ch=>exact ⟨_,a₁,w₁,hq,.of_steps h0 harr⟩
  |outgrown=>exact ⟨_,a₁,w₁,hq,.of_steps h0 harr⟩
set_option maxHeartbeats 1000000 in
theorem ymc (hm:P.follows .mixedOrders=true) {L:List Nat} {ax:Axs} (hA:zie (axC (zhs P L ax))) (hIt:z3o P L) (hB:zr5 P G (axC (zhs P L ax))) (hL:zng P G L=true):∀ n,yfl P (zhs P L ax) G n/\ykz P (zhs P L ax) G n:=by
  intro n
  induction n with
  |zero=>exact ⟨fun c fr s e fr' s' σ V w a r kd h=>by simp [cm] at h,fun b fr s e fr' s' σ V w a r kd h=>by simp [cm] at h⟩
  |succ n ih =>
    obtain ⟨ih1,ih2⟩:=ih;have hE:=yeg P L ax;have hC:=ye2 hA hIt hB hL ih1;obtain ⟨hfacts,hcan⟩:=zz7 (P:=P) (Γ:=zhs P L ax) hA hIt.can n
    have hloop:ykz P (zhs P L ax) G (n+1):=by
      intro b fr s e fr' s' σ V w a r kd h hb hr hV hF hI hG hfr hR;simp only [cm] at h;rw [roundsIn_succ];split at h
      . rename_i fr1 s1 h1;obtain ⟨q1,_,q3⟩:=hfacts _ _ _ _ _ _ h1;obtain ⟨r1,_,r3⟩:=hfacts _ _ _ _ _ _ h;have c1:=q3 hI;have c2:=r3 (hI.next c1);refine ls ?_ (ih1 b fr s _ fr1 s1 σ V w a r kd h1 hb hr (hV.back c2) (hF.mono (fp _) c2.n) hI hG hfr hR);rintro e1 a1 w1 ⟨rfl,σ1,k1,k2,k3,k4⟩;show Code.roundsIn (zlm r) kd P b _ n a1 w1;have hrounds:=ih2 b fr1 s1 e fr' s' σ1 V w1 a1 r kd h (by rw [q1];exact hb) k3 hV (hF.next k4 c1) (hI.next c1) (hG.up k4.le) k1 (hR.next k4)
        -- the same, seen from the start
        have hmono:∀ m a2 w2,Code.roundsIn (zlm r) kd P b (Post V σ1 s1 w1 a1 e fr' s') m a2 w2->Code.roundsIn (zlm r) kd P b (Post V σ s w a e fr' s') m a2 w2:=by
          intro m
          induction m with
          |zero=>intro a2 w2 hx;exact hx
          |succ m ihm =>
            intro a2 w2 hx;rw [roundsIn_succ] at hx ⊢;refine ls ?_ hx;intro e2 a3 w3 hy
            cases e2 with
            |normal=>exact ihm a3 w3 hy
            |exit id=>exact Post.chain k4 k2 c1 c2 hF hI.none hy
            |goto lb=>exact Post.chain k4 k2 c1 c2 hF hI.none hy
            |ret=>exact Post.chain k4 k2 c1 c2 hF hI.none hy
            |panic ch=>exact Post.chain k4 k2 c1 c2 hF hI.none hy
            |outgrown=>exact Post.chain k4 k2 c1 c2 hF hI.none hy
        exact hmono n a1 w1 hrounds
      . rename_i hne;obtain ⟨_,q2,_⟩:=hfacts _ _ _ _ _ _ h;refine ls ?_ (ih1 b fr s e fr' s' σ V w a r kd h hb hr hV hF hI hG hfr hR);rintro e1 a1 w1 ⟨rfl,σ1,k1,k2,k3,k4⟩
        cases e1 with
        |normal=>exact absurd h (hne _ _)
        |exit id=>exact ⟨rfl,σ1,k1,k2,k3,k4⟩
        |ret=>exact ⟨rfl,σ1,k1,k2,k3,k4⟩
        |goto lb=>exact q2.elim
        |panic ch=>exact q2.elim
        |outgrown=>exact q2.elim
    refine ⟨?_,hloop⟩;intro c fr s e fr' s' σ V w a r kd h hok hr hV hF hI hG hfr hR
    cases c with
    |skip=>simp only [cm,fe,fm] at h;obtain ⟨rfl,rfl,rfl⟩:=h;exact wpIn_skip ⟨rfl,σ,hfr,znq.refl ..,hr,qq _ _ _ _⟩
    |label lb=>simp only [cm,fe,fm] at h;obtain ⟨rfl,rfl,rfl⟩:=h;exact wpIn_label ⟨rfl,σ,hfr,znq.refl ..,hr,qq _ _ _ _⟩
    |exit id=>simp only [cm,fe,fm] at h;obtain ⟨rfl,rfl,rfl⟩:=h;exact wpIn_exit ⟨rfl,σ,hfr,znq.refl ..,hr,qq _ _ _ _⟩
    |ret=>simp only [cm,fe,fm] at h;obtain ⟨rfl,rfl,rfl⟩:=h;exact wpIn_ret ⟨rfl,σ,hfr,znq.refl ..,hr,qq _ _ _ _⟩
    |region id ops draw =>
      have h' : (bif draw then match drawC P (zhs P L ax) (zfh P (zhs P L ax) n) ops.toList ops.toList fr s with
          |some (logs,fr,t)=>bif calm s.n ops.toList logs then some (mz,fr,t) else none
          |none=>none
        else match runC P (zhs P L ax) (zfh P (zhs P L ax) n) ops.toList ops.toList fr s with
          |some (fr,s)=>some (mz,fr,s)
          |none=>none)=some (e,fr',s'):=h
      simp only [zgx,fj] at hok
      cases draw with
      |true =>
        simp only [cond_true] at h';split at h'
        . rename_i hd;obtain ⟨hcalm,h'⟩:=zfc h';simp only [fe,fm] at h';obtain ⟨rfl,rfl,rfl⟩:=h';refine yl5 hm hE hC hcan hr hV hF hI hG hfr hok.1 (by simpa using hok.2) hd hcalm ?_;intro σ1 a1 w1 k1 k2 k3 k4;exact ⟨rfl,σ1,k1,znq.of_eq k2,k3,k4⟩
        . simp at h'
      |false =>
        simp only [cond_false] at h';split at h'
        . rename_i hd;simp only [fe,fm] at h';obtain ⟨rfl,rfl,rfl⟩:=h';refine wpIn_region_list ?_;refine yii hE hC hcan (fun o ho=>ib.1 hok.1 o ho) (fun o ho=>ib.1 hok.1 o ho) hr hV hF hI hG hfr hd ?_;intro σ1 a1 w1 k1 k2 k3 k4;exact ⟨rfl,σ1,k1,znq.of_eq k2,k3,k4⟩
        . simp at h'
    |seq x y =>
      simp only [zgx,fj] at hok;simp only [cm] at h;refine wpIn_seq ?_;split at h
      . rename_i fr1 s1 h1;obtain ⟨q1,_,q3⟩:=hfacts _ _ _ _ _ _ h1;obtain ⟨r1,_,r3⟩:=hfacts _ _ _ _ _ _ h;have c1:=q3 hI;have c2:=r3 (hI.next c1);refine ls ?_ (ih1 x fr s _ fr1 s1 σ V w a r kd h1 hok.1 hr (hV.back c2) (hF.mono (fp _) c2.n) hI hG hfr hR);rintro e1 a1 w1 ⟨rfl,σ1,k1,k2,k3,k4⟩;show y.wpIn (zlm r) kd P _ a1 w1;refine ls ?_ (ih1 y fr1 s1 e fr' s' σ1 V w1 a1 r kd h (by rw [q1];exact hok.2) k3 hV (hF.next k4 c1) (hI.next c1) (hG.up k4.le) k1 (hR.next k4));intro e2 a2 w2 hy;exact Post.chain k4 k2 c1 c2 hF hI.none hy
      . rename_i hne;obtain ⟨_,q2,_⟩:=hfacts _ _ _ _ _ _ h;refine ls ?_ (ih1 x fr s e fr' s' σ V w a r kd h hok.1 hr hV hF hI hG hfr hR);rintro e1 a1 w1 ⟨rfl,σ1,k1,k2,k3,k4⟩
        cases e1 with
        |normal=>exact absurd h (hne _ _)
        |exit id=>exact ⟨rfl,σ1,k1,k2,k3,k4⟩
        |ret=>exact ⟨rfl,σ1,k1,k2,k3,k4⟩
        |goto lb=>exact q2.elim
        |panic ch=>exact q2.elim
        |outgrown=>exact q2.elim
    |cond x t f =>
      simp only [zgx,fj] at hok;simp only [cm] at h;split at h
      . rename_i bb hb;have hv:VR σ (zg6 fr x) (a.eval x):=zu0 hG hok.1.1 fun t _=>hfr.val t;rw [hb] at hv;refine wpIn_cond hv.bool ?_
        cases bb with
        |true=>exact ih1 t fr s e fr' s' σ V w a r kd h hok.1.2 hr hV hF hI hG hfr hR
        |false=>exact ih1 f fr s e fr' s' σ V w a r kd h hok.2 hr hV hF hI hG hfr hR
      . simp at h
    |block id b =>
      simp only [zgx] at hok;simp only [cm] at h;refine wpIn_block ?_;split at h
      . rename_i i fr1 s1 h1;simp only [fe,fm] at h;obtain ⟨rfl,rfl,rfl⟩:=h;refine ls ?_ (ih1 b fr s _ fr1 s1 σ V w a r kd h1 hok hr hV hF hI hG hfr hR);rintro e1 a1 w1 ⟨rfl,σ1,k1,k2,k3,k4⟩;show (if i=id then _ else _);by_cases hid:i=id
        . rw [zAc hid];refine ⟨?_,σ1,k1,k2,k3,k4⟩;rw [hid,Nat.beq_refl];rfl
        . rw [zAd hid];refine ⟨?_,σ1,k1,k2,k3,k4⟩
          have:fy i id=false:=by
            cases hq:fy i id with
            |false=>rfl
            |true=>exact absurd (fl hq) hid
          rw [this];rfl
      . rename_i hne;obtain ⟨_,q2,_⟩:=hfacts _ _ _ _ _ _ h;refine ls ?_ (ih1 b fr s e fr' s' σ V w a r kd h hok hr hV hF hI hG hfr hR);rintro e1 a1 w1 ⟨rfl,σ1,k1,k2,k3,k4⟩
        cases e1 with
        |normal=>exact ⟨rfl,σ1,k1,k2,k3,k4⟩
        |exit i=>exact absurd h (hne _ _ _)
        |ret=>exact ⟨rfl,σ1,k1,k2,k3,k4⟩
        |goto lb=>exact q2.elim
        |panic ch=>exact q2.elim
        |outgrown=>exact q2.elim
    |loop b =>
      simp only [zgx] at hok;exact wpIn_loop_rounds (n+1) (hloop b fr s e fr' s' σ V w a r kd h hok hr hV hF hI hG hfr hR)
    |scope b =>
      simp only [zgx] at hok;simp only [cm] at h;obtain ⟨_,q2,_⟩:=hfacts _ _ _ _ _ _ h;refine zom ?_;refine ls ?_ (ih1 b fr s e fr' s' σ V w a r kd h hok hr hV hF hI hG hfr hR);rintro e1 a1 w1 ⟨rfl,σ1,k1,k2,k3,k4⟩
      cases e1 with
      |normal=>exact ⟨rfl,σ1,k1,k2,k3,k4⟩
      |exit i=>exact ⟨rfl,σ1,k1,k2,k3,k4⟩
      |ret=>exact ⟨rfl,σ1,k1,k2,k3,k4⟩
      |goto lb=>exact q2.elim
      |panic ch=>exact q2.elim
      |outgrown=>exact q2.elim
    |rangeFunc g ps x y =>
      simp only [zgx,fj] at hok;rw [cm] at h;exact yf4 hA hIt rfl ih1 h hok.1.1.1 (fun p hp=>zad.1 (ib.1 hok.1.1.2 p hp)) hok.1.2 hok.2 hr hV hF hI hG hfr hR
    |goto lb=>simp [cm] at h
    |refuse why=>simp [cm] at h
end
end Go.Proofs.Ytkfnjbfnkpameaa
