/- The chapter's functions, walked by the abstract machine: plain lemmas, no condition. Printed by a program from longer texts: names made short. -/
import Derived.Test.YtgmhjhgoamjeeaaGreatDoorM5
import Derived.Test.YtgmhjhgoamjeeaaGreatDoorM3
import Derived.Test.YtgmhjhgoamjeeaaGreatDoorM4
import Derived.Shelf.Strings.Search3
import Derived.MakeChecks
import Derived.Shelf.Vars
import Derived.Lay
import Derived.LaidLaws
import Derived.Lib.LaidTab
import Derived.Lib.LaidU8T
import Derived.Test.YtgmhjhgoamjeeaaGreatDoorRows
set_option linter.unusedSectionVars false
set_option linter.unusedSimpArgs false
set_option linter.unusedVariables false
set_option maxHeartbeats 64000000
noncomputable section
namespace Go.Proofs.YtgmhjhgoamjeeaaGreatDoor
section
open Go aX
inductive aL where
 | mk (k n a:Int) (s:List UInt8) (l:List aL)
namespace aL
def k:aL->Int | mk k _ _ _ _=>k
def n:aL->Int | mk _ n _ _ _=>n
def a:aL->Int | mk _ _ a _ _=>a
def s:aL->List UInt8 | mk _ _ _ s _=>s
def l:aL->List aL | mk _ _ _ _ l=>l
end aL
mutual
def aL.size:aL->Nat
 | .mk _ _ _ _ l=>1+b8 l
def b8:List aL->Nat
 | []=>0
 | t::l=>t.size+b8 l
end
theorem nb {t:aL}:∀{l:List aL},t ∈ l->t.size<=b8 l
 | [],h=>by cases h
 | u::l,h=>by
   simp only [b8];rcases arM.1 h with rfl | h
   . omega
   . have:=nb h;omega
theorem zE {t u:aL} (h:u ∈ t.l):u.size<t.size:=by
 cases t with
 | mk k n a s l=>have:=nb h;simp only [aL.size];simp only [aL.l] at this;omega
theorem nc:∀l:List aL,l.length<=b8 l
 | []=>arv _
 | t::l=>by have:=nc l;have:1<=t.size:=by (cases t;simp only [aL.size];omega)
            simp only [b8,arA];omega
theorem nT (t:aL):1<=t.size:=by cases t;simp only [aL.size];omega
mutual
def aL.enc:aL->List D
 | .mk k n a s l=>[.i .i64 k,.i .i64 n,.i .i64 a,.s s,.l 5 (Gz l)]
def Gz:List aL->List (List D)
 | []=>[]
 | t::l=>t.enc::Gz l
end
theorem Vt:∀l:List aL,Gz l=l.map aL.enc
 | []=>rfl
 | t::l=>by rw [Gz,Vt l,ast]
theorem zA (t:aL):t.enc=[.i .i64 t.k,.i .i64 t.n,.i .i64 t.a,.s t.s,.l 5 (t.l.map aL.enc)]:=by
 cases t with
 | mk k n a s l=>simp only [aL.enc,Vt,aL.k,aL.n,aL.a,aL.s,aL.l]
mutual
def aL.deep:aL->Nat
 | .mk _ _ _ _ l=>k8 l+1
def k8:List aL->Nat
 | []=>0
 | t::l=>max t.deep (k8 l)
end
section
variable {F:aM->Prop} {h:ae} [Lay]
theorem aL.open {t:aL} {af:List V} (H:bM F h t.enc af):∃cm,af=[.int .i64 t.k,.int .i64 t.n,.int .i64 t.a,.str t.s,cm]/\bY F h 5 (t.l.map aL.enc) cm/\t.s.length<=top:=by rw [zA] at H;obtain ⟨_,rfl,H1⟩:=H.int;obtain ⟨_,rfl,cX⟩:=H1.int;obtain ⟨_,rfl,sb⟩:=cX.int;obtain ⟨_,rfl,aU,vH⟩:=sb.str;obtain ⟨cm,_,rfl,L,sc⟩:=vH.eW;obtain rfl:=sc.no;exact ⟨cm,rfl,L,aU⟩
theorem aL.k3 {l:List aL} {v:V} (H:bY F h 5 (l.map aL.enc) v) {k:IntKind} {i:Nat} (aw:i<l.length):
 ∃b off cm,fX 5 v (.int k i)=some (.ptr b (off+i * 5))/\bM F h l[i].enc [.int .i64 l[i].k,.int .i64 l[i].n,.int .i64 l[i].a,.str l[i].s,cm]/\bY F h 5 (l[i].l.map aL.enc) cm/\
  ∀ab,Ext h ab->mW 5 (ab.get b) (off+i * 5)=some (.agg [.int .i64 l[i].k,.int .i64 l[i].n,.int .i64 l[i].a,.str l[i].s,cm]):=by
 obtain ⟨b,off,u,aJ,aR,bP,b4,_⟩:=H.at (k:=k) (i:=i) (by rw [arC];exact aw);rw [as8] at aR;obtain ⟨cm,rfl,L,_⟩:=aL.open aR;exact ⟨b,off,cm,aJ,aR,L,b4⟩
end
end
section
open Go aX Go.RowKit
theorem A2 {w:World} {p:Addr} {v:Value} (h:w.cell? p=some v):p.block<w.heap.size:=by
 unfold World.cell? at h;by_cases q:p.block<w.heap.size
 . exact q
 . rw [ate (by omega)] at h;cases h
def xO (w:World) (g:Nat):Prop:=∃aQ,w.cell? ⟨g,0,none⟩=some aQ/\(aQ=.nilIface\/∃aof Vs,aQ=.iface aof Vs)
theorem xO.e1 {w w':World} {g:Nat} (h:xO w g) (ah:Below w.heap.size w w'):xO w' g:=by obtain ⟨aQ,aa,ad⟩:=h;exact ⟨aQ,by rw [ah.cell (A2 aa)];exact aa,ad⟩
structure HY (w:World):Prop where
 Xi:Lib.Utf8Tabs 0 1 w
 maxLen:∃m,w.cell? ⟨2,0,none⟩=some (.int .i64 m)
 RC:xO w 4
instance lay:Lay where
 ok w:=HY w
 e1:=by
  intro w w' h ah;refine ⟨?_,?_,h.RC.e1 ah⟩
  . obtain ⟨aa,ad⟩:=h.Xi;refine ⟨fun c aq=>?_,fun i aw=>?_⟩
    . rw [ah.cell (A2 (aa c aq))];exact aa c aq
    . obtain ⟨al,ao⟩:=ad i aw;rw [ah.cell (A2 al),ah.cell (A2 ao)];exact ⟨al,ao⟩
  . obtain ⟨m,q⟩:=h.maxLen;exact ⟨m,by rw [ah.cell (A2 q)];exact q⟩
section
open Go.Shelf
def Tryz.ajT:Go.Shelf.Ren:=⟨fun | 144=>134 | 143=>138 | 219=>146 | 217=>118 | 225=>151 | 224=>152 | 267=>153 | 266=>128 | 314=>155 | n=>n,fun | 9=>9 | 4=>4 | 3=>3 | 5=>5 | 46=>160 | 146=>173 | 51=>172 | n=>n,fun | 1=>2 | n=>n⟩
theorem Tryz.ajS:Go.Proofs.Lays.n144 Tryz.prog Tryz.ajT:={
 mixed:=by kernel_rfl,
 f143:=Tryz.func138.trans (congrArg some (by kernel_rfl)),
 f144:=Tryz.func134.trans (congrArg some (by kernel_rfl)),
 f217:=Tryz.func118.trans (congrArg some (by kernel_rfl)),
 f219:=Tryz.func146.trans (congrArg some (by kernel_rfl)),
 f224:=Tryz.func152.trans (congrArg some (by kernel_rfl)),
 f225:=Tryz.func151.trans (congrArg some (by kernel_rfl)),
 f266:=Tryz.func128.trans (congrArg some (by kernel_rfl)),
 f267:=Tryz.func153.trans (congrArg some (by kernel_rfl)),
 f314:=Tryz.func155.trans (congrArg some (by kernel_rfl)),
 t3:=Tryz.underlying3,
 a3:=Tryz.isAgg3,
 z3:=Tryz.sizeOf3,
 v3:=Tryz.zeroValue3,
 t4:=Tryz.underlying4,
 a4:=Tryz.isAgg4,
 z4:=Tryz.sizeOf4,
 v4:=Tryz.zeroValue4,
 t5:=Tryz.underlying5,
 a5:=Tryz.isAgg5,
 z5:=Tryz.sizeOf5,
 v5:=Tryz.zeroValue5,
 t9:=Tryz.underlying9,
 a9:=Tryz.isAgg9,
 z9:=Tryz.sizeOf9,
 v9:=Tryz.zeroValue9,
 t46:=Tryz.underlying160,
 a46:=Tryz.isAgg160,
 z46:=Tryz.sizeOf160,
 v46:=Tryz.zeroValue160,
 t51:=Tryz.underlying172,
 a51:=Tryz.isAgg172,
 z51:=Tryz.sizeOf172,
 v51:=Tryz.zeroValue172,
 t146:=Tryz.underlying173,
 a146:=Tryz.isAgg173,
 z146:=Tryz.sizeOf173,
 v146:=Tryz.zeroValue173,
 g1:=by kernel_rfl}
theorem QM (s sub:ByteArray) (m:Int) (w:World) (aU:s.size<4294967281) (hm:w.cell? ⟨2,0,none⟩=some (.int .i64 m)):
 Calls Tryz.prog 134 #[.string s,.string sub] w fun e w'=>e=.returned (.bool (Lib.contains s.data.toList sub.data.toList))/\w'=w:=Any.strings_Contains Tryz.ajS s sub m w aU hm
end
def ctx:Ctx:=⟨Tryz.prog,fun f=>bif Nat.beq f 134 then some I2 else none,fun f=>bif Nat.beq f 128 then some FT else none⟩
theorem follows:Tryz.prog.follows .mixedOrders=true:=by kernel_rfl
theorem names:(Tryz.prog.funcs.toList.all fun fn=>!(fn.name == "runtime.NumGoroutine"))=true:=by kernel_rfl
theorem zp:eg Tryz.prog:=by intro f fn h;have:=arU.1 names fn (arX (i:=f) (by simpa using h));simpa using this
theorem Me:pT ctx:=by
 refine ⟨fun f p args h v ab ag he=>?_,fun f p args h v ab ag he aA E w xs ak s=>?_⟩
 . simp only [ctx,hG] at ag;by_cases av:f=134
   . rw [arz av] at ag;cases ag;subst av;obtain ⟨s,sub,rfl,aU,rfl,rfl⟩:=abQ he;refine ⟨⟨_,Tryz.func134,by kernel_rfl⟩,ajF fun E xs w ax ak=>?_⟩;obtain ⟨y,cx,rfl,al,z,vD,rfl,ao,rfl⟩:=ak;simp only [Rel] at al ao;subst al ao;obtain ⟨m,hm⟩:=ax.maxLen;refine (QM ⟨⟨s⟩⟩ ⟨⟨sub⟩⟩ m w (by show s.length<4294967281;omega) hm).mono fun e w' q=>?_;obtain ⟨rfl,rfl⟩:=q;exact ⟨_,rfl,by simp only [Rel],Below.refl _ _⟩
   . rw [arw av] at ag;cases ag
 . simp only [ctx,hG] at ag;by_cases av:f=128
   . rw [arz av] at ag;cases ag;subst av;exact ahe (P:=Tryz.prog) Tryz.func128 (by kernel_rfl) (by kernel_rfl) (by kernel_rfl) (by kernel_rfl) he aA E w xs ak s
   . rw [arw av] at ag;cases ag
end
end Go.Proofs.YtgmhjhgoamjeeaaGreatDoor
